/- Parts of the proof, one behind the other. -/
import Derived.Test.YtnigelgcjfhghaaGreatDoorM4
set_option linter.all false
set_option maxRecDepth 10000
set_option maxHeartbeats 16000000
open And renaming intro -> zA0
open Option renaming bind_eq_bind -> zA1, bind_eq_some_iff -> zA2, bind_some -> zA3, map_some -> zA6, map_eq_some_iff -> zB2
open List renaming mem_singleton -> zA4, getElem?_eq_getElem -> zA5, length_cons -> zA8, getD_eq_getElem?_getD -> zA9, mem_cons -> zB0, map_cons -> zB4, mem_append -> zB7, mem_cons_self -> zB8, mem_cons_of_mem -> zB9, length_nil -> zC5, length_append -> zC6, length_singleton -> zC7, length_map -> zC8, flatMap_cons -> zD1, all_eq_true -> zD4, mem_map -> zD5, nil_append -> zD6, getElem?_cons_succ -> zD7, length_take -> zE1, append_nil -> zE2, getElem?_eq_none -> zE3, not_mem_nil -> zE4, getElem?_map -> zE5, getElem?_eq_some_iff -> zE6, eq_nil_of_length_eq_zero -> zE7, take_of_length_le -> zE8, getElem?_cons_zero -> zE9, drop_zero -> zF0, mem_of_getElem? -> zF2, map_nil -> zF3, getElem_mem -> zF4, map_append -> zF5
open Bool renaming and_eq_true -> zA7, false_eq_true -> zC1, and_self -> zC9, or_eq_false_iff -> zF6
open Nat renaming le_refl -> zB1, le_of_ble_eq_true -> zB3, zero_le -> zC0, le_trans -> zC2, zero_add -> zC3, lt_succ_self -> zC4, mul_one -> zD0, lt_of_lt_of_le -> zD2, lt_or_ge -> zD3, eq_of_beq_eq_true -> zD8, ble_eq -> zD9, add_zero -> zE0, le_of_eq -> zF1
open Int renaming toNat_natCast -> zB5, cast_ofNat_Int -> zB6

namespace Go.Proofs.YtnigelgcjfhghaaGreatDoor
open Go.ChangeShapes Go.WideShapes Go.ChangeAt Go.RowKit Go.Ax
section
variable {K : Type} {enc : TypeId × Value -> K} {w : World} {ρ : Ren} {H : AHeap} {e' : TypeId}
theorem fl83E:flat Tryz.prog 1000 83=some [3,3]:=by kernel_rfl
theorem wd_of:∀ cs,fits Tryz.prog [3,3] cs=true->∃ c:Int × Int,cs=[.int .i64 c.1,.int .i64 c.2]:=fun cs h=>by
 have hl:=fits_length h
 match cs,hl,h with
 |[a,b],_,h =>
  simp only[fits,zA7,Bool.and_true]at h
  obtain⟨h1,h2⟩:=h
  unfold fit1 at h1 h2
  rw[u3C]at h1 h2
  cases a<;>simp at h1
  cases b<;>simp at h2
  subst h1 h2
  exact⟨⟨_,_⟩,rfl⟩
theorem RoF_words (R:RoF Tryz.prog ρ H w 3) (hl:LaidP w e') {fuel:Nat} {v:Value} {x:DataW K × List MemPlace} (h:DataW.trod enc Tryz.prog w 0 (fun _=>true) true fuel 31 [v]=some x) :
  ∃ ρ1 H1 u l,RoF Tryz.prog ρ1 H1 w 3/\Ext H.next ρ ρ1/\Gro H H1/\ρ1.val u=v/\scb H1.next u=true/\RdAt H1 2 u (wdC l) l.length:=by
 have u31:Tryz.prog.underlying 31=some (.slice 83):=by kernel_rfl
 have s83:szOf Tryz.prog 83=some 2:=by kernel_rfl
 rcases DataW.trod_slice u31 h with⟨h1,_⟩|⟨a,len,cap,_,_,_,_,h1,_,_,hlc,_⟩
 ·simp only[List.cons.injEq,and_true]at h1
  subst h1
  exact⟨ρ,H,.slice none 0 0,[],R,Ext.refl _ _,Gro.refl,by rw[Ren.val],rfl,RdAt.nil⟩
 ·simp only[List.cons.injEq,and_true]at h1
  subst h1
  have hs0:=sl_spot (fun _=>rfl) u31 s83 h
  obtain⟨b,off,s⟩:=a
  simp only at hs0
  rcases hs0 with hs0|⟨rfl,rfl⟩
  case inr =>
   obtain⟨ρ1,H1,u,q1,q2,q3,q4,q5,q6⟩:=R.sl (sz:=2) (len:=0) (cap:=0) (b:=b) (off:=off) (sp:=s) (vs:=[]) (.inr ⟨rfl,rfl⟩) (by simp) (.inl rfl) rfl (.inl rfl) (zB1 _)
   exact⟨ρ1,H1,u,[],q1,q2,q3,q4,q5,SlAt.rd q6⟩
  subst hs0
  obtain⟨vs,n,k1,k2,k3⟩:=sl_cells u31 s83 h
  have hch:chunkd Tryz.prog [3,3] vs len:=fun i hi=>by
   obtain⟨y,hy⟩:=k3 i hi
   exact trod_fits n 1000 83 [3,3] _ y fl83E s83 hy
  obtain⟨l,hll,rfl⟩:=chunk_of (ts:=[3,3]) (f:=fun c:Int × Int=>[.int .i64 c.1,.int .i64 c.2]) wd_of len vs k1 hch
  subst hll
  have hfm:l.flatMap (fun c:Int × Int=>[Value.int .i64 c.1,.int .i64 c.2])=wdC l:=rfl
  rw[hfm]at k1 k2 hch
  have haf:∀ v∈wdC l,af v=true:=chunkd_af (ts:=[3,3]) k1 hch
  have hval:∀ i,i<(wdC l).length->ρ.val ((wdC l).getD i undef)=(wdC l).getD i undef:=fun i hi=>map_val_af haf i hi
  have hcell:l.length=0\/∃ c e fz,w.heap[b]?=some (.cells c e fz)/\∀ i,i<(wdC l).length->c[off+i]?=some (ρ.val ((wdC l).getD i undef)):=by
   rcases k2 with h|⟨c,e,fz,h1,h2⟩
   ·exact .inl (by omega)
   ·exact .inr ⟨c,e,fz,h1,fun i hi=>by rw[hval i hi]; exact h2 i (by omega)⟩
  have hne:l.length=0\/b≠3:=by
   rcases Nat.eq_zero_or_pos l.length with h0|h0
   ·exact .inl h0
   ·rcases k2 with h|⟨c,e,fz,h1,h2⟩
    ·exact .inl (by omega)
    ·right
     obtain⟨p,r,rfl⟩:=List.exists_cons_of_ne_nil (l:=l) (fun h=>by rw[h]at h0; simp at h0)
     have h3:=h2 0 (by omega)
     exact ne_pow hl h1 (i:=off+0) (k:=.i64) (n:=p.1) h3 (by decide)
  obtain⟨ρ1,H1,u,q1,q2,q3,q4,q5,q6⟩:=R.sl (cap:=cap) (.inl rfl) k1 hcell (wdC_sc _ _) hne hlc
  exact⟨ρ1,H1,u,l,q1,q2,q3,q4,q5,SlAt.rd q6⟩
theorem RoF_code (R:RoF Tryz.prog ρ H w 3) (hl:LaidP w e') {fuel:Nat} {v:Value} {x:DataW K × List MemPlace} (h:DataW.trod enc Tryz.prog w 0 (fun _=>true) true fuel 33 v.cells.toList=some x) :
  ∃ ρ1 H1 least most depth u p l ws,RoF Tryz.prog ρ1 H1 w 3/\Ext H.next ρ ρ1/\Gro H H1/\ρ1.val (cdV least most depth u p)=v/\scb H1.next u=true/\scb H1.next p=true/\RdAt H1 1 u (bv l) l.length/\RdAt H1 2 p (wdC ws) ws.length:=by
 have hfl:flds Tryz.prog 33=some [(3,0),(3,1),(3,2),(23,3),(31,4)]:=by kernel_rfl
 obtain⟨hcl,n,hs⟩:=trod_flds hfl h
 rw[cellsOf_szOf (n:=5) (by kernel_rfl)]at hcl
 have c3:Tryz.prog.cellsOf 3=1:=cellsOf_szOf s3
 have c23:Tryz.prog.cellsOf 23=1:=cellsOf_szOf (by kernel_rfl)
 have c31:Tryz.prog.cellsOf 31=1:=cellsOf_szOf (by kernel_rfl)
 cases v with
 |agg cs =>
  obtain⟨cs⟩:=cs
  simp only[Value.cells]at hcl hs
  match cs,hcl,hs with
  |[a,b,c,d,f],_,hs =>
   obtain⟨y0,h0⟩:=hs 0 3 0 rfl
   obtain⟨y1,h1⟩:=hs 1 3 1 rfl
   obtain⟨y2,h2⟩:=hs 2 3 2 rfl
   obtain⟨y3,h3⟩:=hs 3 23 3 rfl
   obtain⟨y4,h4⟩:=hs 4 31 4 rfl
   rw[c3]at h0 h1 h2
   rw[c23]at h3
   rw[c31]at h4
   obtain⟨least,e0,_⟩:=DataW.trod_int u3C h0
   obtain⟨most,e1,_⟩:=DataW.trod_int u3C h1
   obtain⟨depth,e2,_⟩:=DataW.trod_int u3C h2
   simp only[List.drop_succ_cons,zF0,List.take_succ_cons,List.take_zero,List.cons.injEq,and_true]at e0 e1 e2 h3 h4
   subst e0 e1 e2
   obtain⟨ρ1,H1,u,l,a1,a2,a3,a4,a5,a6⟩:=RoF_bytes R hl h3
   obtain⟨ρ2,H2,p,ws,b1,b2,b3,b4,b5,b6⟩:=RoF_words a1 hl h4
   refine⟨ρ2,H2,least,most,depth,u,p,l,ws,b1,a2.trans b2 a3.next,a3.trans b3,?_,scb_mono b3.next _ a5,b5,a6.of b3.next fun n hn=>b3.get n (a6.ne n hn).2,b6⟩
   have hu:ρ2.val u=d:=by rw[val_ext b2 u a5,a4]
   unfold cdV
   simp[Ren.val,Ren.valA,Ren.valL,hu,b4]
 |_=>simp[Value.cells]at hcl
end
theorem law_callsI {K:Type} {enc:TypeId × Value->K} {f:FuncId} {W:World} {v1 v2:Value} {d1 d2:DataW K} {p1 p2:List MemPlace} {e:TypeId} {base:Nat} (hl:LaidP W e) (ok2:Value.okWide Tryz.prog W .any base 35 v2) (h1:DataW.Trod enc Tryz.prog W 0 (fun _=>true) true 33 v1 d1 p1) (h2:DataW.Trod enc Tryz.prog W 0 (fun _=>true) true 35 v2 d2 p2)
  (walk:∀ (least most depth:Int) (u p q:Value) (l:List UInt8) (ws:List (Int × Int)) (ns:List Int) (H:AHeap),H.base<=H.next->RdAt H 1 u (bv l) l.length->RdAt H 2 p (wdC ws) ws.length->RdAt H 1 q (iv ns) ns.length->scb H.next u=true->scb H.next p=true->scb H.next q=true->CallA Tryz.prog f [cdV least most depth u p,q] H fun out H1=>out=.ok (.bool true)/\Mod [] H H1) :
  Calls Tryz.prog f #[v1,v2] W (fun e w'=>e=.returned (.bool true)/\RowKit.Below W.heap.size W w'):=by
 obtain⟨N,hN⟩:∃ N,N=Tryz.prog.globals.size:=⟨_,rfl⟩
 have r:Rel Tryz.prog (enR N 0 0) (AHeap.none (N+1)) W:=⟨zB1 _,⟨by rw[<-hN]; exact Nat.le_succ _,fun g hg=>by
   have:g≠N:=by omega
   exact⟨if_neg this,if_neg this⟩⟩,fun m _ hm=>absurd (none_get _ m) hm,fun n o ho=>(by rw[none_get]at ho; cases ho),fun n o ho=>(by rw[none_get]at ho; cases ho)⟩
 have R:RoF Tryz.prog (enR N 0 0) (AHeap.none (N+1)) W 3:=⟨r,rfl,rfl,fun n hn=>absurd (none_get _ n) hn,fun _=>rfl⟩
 obtain⟨f1,hf1⟩:=h1
 obtain⟨f2,hf2⟩:=h2
 have e2:v2.cells.toList=[v2]:=by rcases ok_sliceB u35 ok2 with rfl|⟨_,_,_,_,rfl⟩<;>rfl
 rw[e2]at hf2
 obtain⟨ρ1,H1,least,most,depth,u,p,l,ws,a1,a2,a3,a4,su,sp,hu,hp⟩:=RoF_code R hl hf1
 obtain⟨ρ2,H2,q,ns,b1,b2,b3,b4,sq,hq⟩:=RoF_ints a1 hl hf2
 have s0:scb H1.next (cdV least most depth u p)=true:=by
  show (true&&(true&&(true&&(scb H1.next u&&(scb H1.next p&&true)))))=true
  simp only[su,sp,zC9]
 have s2:=scb_mono b3.next _ s0
 have:=rel_calls b1.rel (args:=[cdV least most depth u p,q]) (by simp only[scbL,s2,sq,zC9]) b1.base b1.dirty (walk least most depth u p q l ws ns H2 (zF1 b1.base) (hu.of b3.next fun n hn=>b3.get n (hu.ne n hn).2) (hp.of b3.next fun n hn=>b3.get n (hp.ne n hn).2) hq (scb_mono b3.next _ su) (scb_mono b3.next _ sp) sq)
 rw[zB4,zB4,zF3,b4,val_ext b2 _ s0,a4]at this
 exact this
open Go.Ax
set_option maxRecDepth 100000
set_option maxRecDepth 100000
set_option maxRecDepth 100000
end Go.Proofs.YtnigelgcjfhghaaGreatDoor
namespace Go.Ax
theorem rdF_ids {v:Value} {cnt n:Nat} (h:n∈rdF v cnt):n∈idsV v:=by
 unfold rdF at h
 split at h
 ·cases h
 ·exact h
theorem RdAt.modW {H G:AHeap} {sz cnt:Nat} {v:Value} {vs:List Value} {W:List Nat} (h:RdAt H sz v vs cnt) (m:Mod W H G) (hd:∀ n∈rdF v cnt,n∉W):RdAt G sz v vs cnt:=h.of m.next fun n hn=>m.get n (h.ne n hn).2 (hd n hn)
end Go.Ax
namespace Go.Proofs.YtnigelgcjfhghaaGreatDoor
open Go.Ax
set_option maxRecDepth 100000
set_option maxRecDepth 100000
def FrAt (e:TypeId) (H:AHeap) (v:Value) (fs:List Fr):Prop :=
 (fs=[]/\v=.slice none 0 0)\/∃ n c M,v=.slice (some ⟨n,0,none⟩) fs.length c/\fs.length<=c/\bk H n=some ⟨e,true,M⟩/\n<H.next/\fs.length*3<=M.length/\M.take (fs.length*3)=frC fs
section
variable {e : TypeId} {H G : AHeap} {v : Value} {fs : List Fr}
theorem FrAt.nil:FrAt e H (.slice none 0 0) []:=.inl ⟨rfl,rfl⟩
theorem FrAt.vs (h:VsAt H e 3 v (frC fs) fs.length):FrAt e H v fs:=by
 obtain⟨h1,h2,⟨h0,rfl⟩|⟨h0,n,rfl,hb,hlt⟩⟩:=h
 ·exact .inl ⟨zE7 h0,rfl⟩
 ·exact .inr ⟨n,_,_,rfl,zB1 _,hb,hlt,by omega,by rw[zE8 (by omega)]⟩
theorem FrAt.rd (h:FrAt e H v fs):RdAt H 3 v (frC fs) fs.length:=by
 obtain⟨rfl,rfl⟩|⟨n,c,M,rfl,hc,hb,hn,hl,ht⟩:=h
 ·exact RdAt.nil
 ·by_cases h0:fs.length=0
  ·exact⟨frC_len fs,.inl ⟨h0,some ⟨n,0,none⟩,c,by rw[h0]⟩⟩
  ·exact⟨frC_len fs,.inr ⟨by omega,n,0,none,c,e,true,M,rfl,rk_of hb,hn,by omega,by rw[zF0]; exact ht⟩⟩
theorem FrAt.of (h:FrAt e H v fs) (hn:H.next<=G.next) (hg:∀ n∈idsV v,G.get n=H.get n):FrAt e G v fs:=by
 obtain⟨rfl,rfl⟩|⟨n,c,M,rfl,hc,hb,hlt,hl,ht⟩:=h
 ·exact .inl ⟨rfl,rfl⟩
 ·exact .inr ⟨n,c,M,rfl,hc,(bk_get (hg n (by simp[idsV]))).trans hb,by omega,hl,ht⟩
theorem FrAt.ne (h:FrAt e H v fs):∀ n∈idsV v,H.get n≠none/\n<H.next:=by
 obtain⟨rfl,rfl⟩|⟨n,c,M,rfl,hc,hb,hlt,hl,ht⟩:=h
 ·intro n hn; simp[idsV]at hn
 ·intro k hk
  simp only[idsV,zA4]at hk
  subst hk
  exact⟨bk_ne hb,hlt⟩
theorem FrAt.mod {W:List Nat} (h:FrAt e H v fs) (m:Mod W H G) (hd:∀ n∈idsV v,n∉W):FrAt e G v fs:=h.of m.next fun n hn=>m.get n (h.ne n hn).2 (hd n hn)
theorem FrAt.mod0 (h:FrAt e H v fs) (m:Mod [] H G):FrAt e G v fs:=h.mod m (by simp)
theorem FrAt.sc (h:FrAt e H v fs):scb H.next v=true:=by
 obtain⟨rfl,rfl⟩|⟨n,c,M,rfl,hc,hb,hlt,hl,ht⟩:=h
 ·rfl
 ·simp only[scb]; exact blt_of hlt
theorem FrAt.sl (h:FrAt e H v fs):∃ a c,v=.slice a fs.length c:=by
 obtain⟨rfl,rfl⟩|⟨n,c,M,rfl,hc,hb,hlt,hl,ht⟩:=h
 ·exact⟨_,_,rfl⟩
 ·exact⟨_,_,rfl⟩
theorem frC_take:∀ (fs:List Fr) (k:Nat),frC (fs.take k)=(frC fs).take (k*3)
 |[],k=>by simp[frC]
 |f::r,0=>by simp[frC]
 |f::r,k+1=>by
  have h:=frC_take r k
  simp only[frC]at h
  rw[List.take_succ_cons,frC,frC,zD1,zD1,h,List.take_append,zE8 (l:=frV f) (by simp[frV]; omega)]
  simp only[frV,zA8,zC5]
  rw[show (k+1)*3-(0+1+1+1)=k*3 by omega]
theorem FrAt.cut {st:TypeId} (h:FrAt e H v fs) (hu:Tryz.prog.underlying st=some (.slice e)) (hs:szOf Tryz.prog e=some 3) (hne:fs≠[]) :
  ∃ a c,FrAt e H (.slice a (fs.length-1) c) fs.dropLast/\(∀ n∈idsV (.slice a (fs.length-1) c),n∈idsV v)/\∀ G:AHeap,(∀ n∈idsV v,G.get n=H.get n)->aSlice Tryz.prog G st v none (some (.int .i64 ((fs.length-1:Nat):Int))) none=some (.slice a (fs.length-1) c,G):=by
 obtain⟨rfl,rfl⟩|⟨n,c,M,rfl,hc,hb,hlt,hl,ht⟩:=h
 ·exact absurd rfl hne
 ·have hd:fs.dropLast=fs.take (fs.length-1):=List.dropLast_eq_take
  have hdl:fs.dropLast.length=fs.length-1:=List.length_dropLast
  refine⟨some ⟨n,0,none⟩,c,.inr ⟨n,c,M,by rw[hdl],by omega,hb,hlt,by omega,?_⟩,fun k hk=>hk,fun G hg=>?_⟩
  ·rw[hdl,hd,frC_take,<-ht,List.take_take,Nat.min_eq_left (by omega)]
  ·have ho:isOpen G n=some true:=isOpen_bk ((bk_get (hg n (by simp[idsV]))).trans hb)
   simp only[aSlice,hu,hs,aSlice2,bound,zA1,zA3,exactAt,ho,zA6,Bool.not_true]
   rw[if_pos (by omega),zA3,zB5,if_pos (by omega),if_pos trivial]
end
theorem eff_bd (op:Nat) (args:List Int) (h0:op=4\/op=9->0<args.length/\0<=args.getD 0 0/\args.getD 0 0<=65535):0<=(effR op args).1/\(effR op args).1<=65536/\0<=(effR op args).2/\(effR op args).2<=1:=by
 unfold effR
 split
 ·decide
 split
 ·rename_i h; have:=h0 h; simp only; omega
 split
 ·decide
 split<;>decide
end Go.Proofs.YtnigelgcjfhghaaGreatDoor
namespace Go.Ax
section
variable {P : Program} {H : AHeap} {N : Nat} {E : Env} {ds : List Deferred} {ops : Array Oper} {rest : List Oper} {ty : TypeId} {pos : String} {after : Array Edge} {d i : Nat} {fps : List Fp} {anc : List Nat} {Q : AAct -> AHeap -> Prop}
end
end Go.Ax
namespace Go.Proofs.YtnigelgcjfhghaaGreatDoor
open Go.Ax
set_option maxRecDepth 100000
set_option maxRecDepth 100000
abbrev Ks:=List (Option St)
def knU (ks:Ks) (dn:List Bool) (i:Nat):Bool:=(ks.getD i none).isSome&&!dn.getD i false
def nxtR (ks:Ks) (dn:List Bool):Option Nat:=(List.range ks.length).find? (knU ks dn)
def queR (ks:Ks) (dn:List Bool):List Nat:=(List.range ks.length).filter (knU ks dn)
def prR (depth:Int) (l:List Ins) (ks:Ks) (i:Nat):Except Int Ks:=procR 9 19 12 13 depth 200 1000 l ks i
def posR (l:List Ins) (i:Nat):Int:=match l[i]? with
 |some x=>x.pos
 |none=>0
def runR (depth:Int) (l:List Ins):Nat->Ks->List Bool->Except (Int × Int) Ks
 |0,ks,_=>.ok ks
 |n+1,ks,dn=>match nxtR ks dn with
  |none=>.ok ks
  |some i=>match prR depth l ks i with
   |.error e=>.error (e,posR l i)
   |.ok ks=>runR depth l n ks (dn.set i true)
def leftR (dn:List Bool):Nat:=(dn.filter (! ·)).length
theorem left_set:∀ {dn:List Bool} {i:Nat},dn[i]?=some false->leftR dn=leftR (dn.set i true)+1
 |b::r,0,h=>by
  simp only[zE9,Option.some.injEq]at h
  subst h
  simp[leftR]
 |b::r,i+1,h=>by
  rw[zD7]at h
  have:=left_set h
  simp only[leftR]at this
  cases b<;>simp[leftR,this]
theorem left_rep (n:Nat):leftR (List.replicate n false)=n:=by simp[leftR]
theorem nxt_some {ks:Ks} {dn:List Bool} {i:Nat} (h:nxtR ks dn=some i):i<ks.length/\(∃ s,ks[i]?=some (some s))/\dn.getD i false=false/\∀ j,j<i->knU ks dn j=false:=by
 rw[nxtR,List.find?_range_eq_some]at h
 obtain⟨h1,h2,h3⟩:=h
 rw[List.mem_range]at h2
 simp only[knU,zA7,Bool.not_eq_true']at h1
 refine⟨h2,?_,h1.2,fun j hj=>?_⟩
 ·rw[zA9,zA5 h2]at h1
  cases hk:ks[i]with
  |none=>rw[hk]at h1; simp at h1
  |some s=>exact⟨s,by rw[zA5 h2,hk]⟩
 ·simpa using h3 j hj
theorem nxt_head {ks:Ks} {dn:List Bool}:nxtR ks dn=(queR ks dn).head?:=by rw[nxtR,queR,List.head?_filter]
theorem que_give {ks:Ks} {dn:List Bool} {i:Nat} {s:St} (hi:i<ks.length) (h0:ks.getD i none=none) (hd:dn.getD i false=false) :
  queR (ks.set i (some s)) dn=(queR ks dn).filter (fun j=>decide (j<i))++i::(queR ks dn).filter (fun j=>decide (i<j)):=by
 obtain⟨m,hm⟩:∃ m,ks.length=i+(m+1):=⟨ks.length-i-1,by omega⟩
 have hr:List.range ks.length=List.range' 0 i++i::List.range' (i+1) m:=by
  rw[hm,List.range_eq_range',<-List.range'_append_1,zC3,List.range'_succ]
 have e1:∀ j,j≠i->knU (ks.set i (some s)) dn j=knU ks dn j:=fun j hj=>by
  rw[knU,knU,zA9,List.getElem?_set_ne (fun h=>hj h.symm),<-zA9]
 have e2:knU (ks.set i (some s)) dn i=true:=by
  rw[knU,zA9,List.getElem?_set_self (by omega),hd]; rfl
 have e3:knU ks dn i=false:=by rw[knU,h0]; rfl
 have a1:∀ j∈List.range' 0 i,j<i:=fun j hj=>by rw[List.mem_range'_1]at hj; omega
 have a2:∀ j∈List.range' (i+1) m,i<j:=fun j hj=>by rw[List.mem_range'_1]at hj; omega
 rw[queR,queR,List.length_set,hr]
 simp only[List.filter_append,List.filter_cons,e2,e3,if_true,List.filter_filter]
 congr 1
 ·rw[List.filter_congr fun j hj=>e1 j (by have:=a1 j hj; omega)]
  have h1:(List.range' 0 i).filter (fun a=>decide (a<i)&&knU ks dn a)=(List.range' 0 i).filter (knU ks dn):=List.filter_congr fun j hj=>by simp[a1 j hj]
  have:(List.range' (i+1) m).filter (fun a=>decide (a<i)&&knU ks dn a)=[]:=by
   rw[List.filter_eq_nil_iff]
   intro j hj
   have:=a2 j hj
   simp only[zA7,decide_eq_true_eq,not_and]
   omega
  simp[this,h1]
 ·congr 1
  rw[List.filter_congr fun j hj=>e1 j (by have:=a2 j hj; omega)]
  have h1:(List.range' (i+1) m).filter (fun a=>decide (i<a)&&knU ks dn a)=(List.range' (i+1) m).filter (knU ks dn):=List.filter_congr fun j hj=>by simp[a2 j hj]
  have h2:(List.range' 0 i).filter (fun a=>decide (i<a)&&knU ks dn a)=[]:=by
   rw[List.filter_eq_nil_iff]
   intro j hj
   have:=a1 j hj
   simp only[zA7,decide_eq_true_eq,not_and]
   omega
  simp[h1,h2]
theorem que_done {ks:Ks} {dn:List Bool} {i:Nat} {r:List Nat} (hlen:dn.length=ks.length) (h:queR ks dn=i::r):queR ks (dn.set i true)=r:=by
 have hn:nxtR ks dn=some i:=by rw[nxt_head,h]; rfl
 obtain⟨h1,_,h2,h3⟩:=nxt_some hn
 have hnd:(queR ks dn).Nodup:=List.Pairwise.filter _ List.nodup_range
 have he:queR ks (dn.set i true)=(queR ks dn).filter fun j=>decide (j≠i):=by
  rw[queR,queR,List.filter_filter]
  refine List.filter_congr fun j hj=>?_
  by_cases hji:j=i
  ·subst hji
   have:knU ks (dn.set j true) j=false:=by
    rw[knU]
    rw[zA9 (l:=dn.set j true),List.getElem?_set_self (by omega)]
    simp
   simp[this]
  ·simp only[knU,zA9]
   rw[List.getElem?_set_ne (fun h=>hji h.symm)]
   simp[hji]
 rw[he,h]
 rw[h]at hnd
 have hr:=(List.nodup_cons.1 hnd).1
 rw[List.filter_cons,if_neg (by simp)]
 rw[List.filter_eq_self]
 intro j hj
 exact decide_eq_true fun e=>hr (e▸hj)
theorem que_sorted (ks:Ks) (dn:List Bool):(queR ks dn).Pairwise (· < ·):=List.Pairwise.filter _ List.pairwise_lt_range
def statO (l:List Ins) (cn:Nat) (x:Ins):Option (Int × Int) :=
 if (constsR x.op.toNat x.args).any (fun k=>decide ((cn:Int)<=k))=true then some (3,x.pos) else
 if x.op.toNat=8/\x.args.getD 0 0=0 then some (3,x.pos) else
 if (targsR x.op.toNat x.args).any (fun t=>decide (findR l t<0))=true then some (5,x.pos) else none
def statR (l:List Ins) (cn:Nat):Option (Int × Int):=l.findSome? (statO l cn)
def entS (h:Int):St:=⟨h,0,[]⟩
def hghR (ks:Ks):List Int:=ks.map fun o=>match o with
 |some s=>s.h
 |none=>-1
set_option maxRecDepth 100000
theorem set_same {α:Type}:∀ {l:List α} {i:Nat} {a:α},l[i]?=some a->l.set i a=l
 |b::r,0,a,h=>by
  simp only[zE9,Option.some.injEq]at h
  rw[h,List.set_cons_zero]
 |b::r,i+1,a,h=>by
  rw[zD7]at h
  rw[List.set_cons_succ,set_same h]
abbrev Rs:=Option (St × Value) × Bool
def rsC:Rs->List Value
 |(none,d)=>[.bool false,.bool d,.int .i64 0,.int .i64 0,.slice none 0 0]
 |(some (s,v),d)=>[.bool true,.bool d,.int .i64 s.h,.int .i64 s.b,v]
def rsL (l:List Rs):List Value:=l.flatMap rsC
structure ASt (H:AHeap) (n:Nat) (l:List Rs):Prop where
 blk:bk H n=some ⟨100,false,rsL l⟩
 lt:n<H.next
 fr:∀ x∈l,∀ s v,x.1=some (s,v)->FrAt 183 H v s.fs/\n∉idsV v
 un:∀ x∈l,x.1=none->x.2=false
section
variable {H G : AHeap} {n : Nat} {l : List Rs} {i : Nat} {x : Rs}
end
set_option maxRecDepth 100000
def WfI (x:Ins):Prop:=0<=x.op/\x.op<28/\x.args.length=(kindsR x.op.toNat x.args).length/\∀ y∈x.args,0<=y/\y<=65535
theorem WfI.len {x:Ins} (w:WfI x) (h:(kindsR x.op.toNat x.args).length≠0):0<x.args.length:=by have:=w.2.2.1; omega
theorem fix_len:∀ op:Fin 28,op.val≠3->op.val≠15->op.val≠19->op.val≠20->op.val≠26->op.val≠27->op.val≠17->op.val≠24->(kindsR op.val []).length≠0:=by decide +kernel
theorem WfI.pos {x:Ins} (w:WfI x) (h:x.op.toNat≠3/\x.op.toNat≠15/\x.op.toNat≠19/\x.op.toNat≠20/\x.op.toNat≠26/\x.op.toNat≠27):0<x.args.length:=by
 have h0:=w.1
 have h1:=w.2.1
 refine w.len fun hk=>?_
 by_cases h17:x.op.toNat=17
 ·rw[h17,show kindsR 17 x.args=guardR x.args from rfl]at hk
  by_cases hn:x.args=[]
  ·rw[hn]at hk; cases hk
  ·have:=guard_len hn
   omega
 by_cases h24:x.op.toNat=24
 ·rw[h24,show kindsR 24 x.args=envR x.args from rfl]at hk
  by_cases hn:x.args.length<2
  ·have:=env_len0 hn
   omega
  ·have:=env_len (args:=x.args) (by omega)
   omega
 rw[fix_same (by omega) h17 h24]at hk
 exact fix_len ⟨x.op.toNat,by omega⟩ h.1 h.2.1 h.2.2.1 h.2.2.2.1 h.2.2.2.2.1 h.2.2.2.2.2 h17 h24 hk
theorem WfI.fst {x:Ins} (w:WfI x) (h:0<x.args.length):0<=x.args.getD 0 0/\x.args.getD 0 0<=65535:=by
 rw[zA9,zA5 h]
 exact w.2.2.2 _ (zF4 h)
theorem evens_len:∀ l:List Int,(evens l).length<=l.length
 |[]=>zB1 _
 |[a]=>zB1 _
 |a::b::r=>by
  have:=evens_len r
  simp only[evens,zA8]
  omega
theorem consts_len (op:Nat) (args:List Int):(constsR op args).length<=args.length+1:=by
 unfold constsR
 split
 ·simp
 split
 ·have:=evens_len (args.drop 1)
  rw[List.length_drop]at this
  omega
 ·simp
theorem targs_len (op:Nat) (args:List Int):(targsR op args).length<=args.length+1:=by
 unfold targsR
 split
 ·simp
 split
 ·have:=evens_len (args.drop 2)
  rw[List.length_drop]at this
  omega
 ·simp
theorem stat_at {l:List Ins} {cn i:Nat} {x:Ins} {r:Int × Int} (h:l[i]?=some x) (hr:statO l cn x=some r) (hb:∀ k,k<i->∀ y,l[k]?=some y->statO l cn y=none):statR l cn=some r:=by
 have:∀ (m:List Ins) (i:Nat),m[i]?=some x->(∀ k,k<i->∀ y,m[k]?=some y->statO l cn y=none)->m.findSome? (statO l cn)=some r:=by
  intro m
  induction m with
  |nil=>intro i h; simp at h
  |cons a m ih =>
   intro i h hb
   cases i with
   |zero =>
    simp only[zE9,Option.some.injEq]at h
    rw[List.findSome?_cons,h,hr]
   |succ i =>
    rw[zD7]at h
    rw[List.findSome?_cons,hb 0 (by omega) a rfl]
    exact ih i h fun k hk y hy=>hb (k+1) (by omega) y (by rw[zD7]; exact hy)
 exact this l i h hb
theorem stat_not {l:List Ins} {cn:Nat} (hb:∀ (k:Nat) (y:Ins),l[k]?=some y->statO l cn y=none):statR l cn=none:=by
 rw[statR,List.findSome?_eq_none_iff]
 intro x hx
 obtain⟨k,hk,e⟩:=List.mem_iff_getElem.1 hx
 exact hb k x (by rw[zA5 hk,e])
set_option maxRecDepth 100000
def StOk (s:St):Prop:=0<=s.h/\s.h<=1000/\0<=s.b/\s.b<=1000/\s.fs.length<=200/\∀ f∈s.fs,(0<=f.height/\f.height<=100000)/\0<=f.bound/\f.bound<=100000
def KsOk (ks:Ks):Prop:=∀ (i:Nat) (t:St),ks[i]?=some (some t)->StOk t
theorem find_lt {l:List Ins} {a:Int} (h:0<=findR l a):findR l a=(((findR l a).toNat:Nat):Int)/\(findR l a).toNat<l.length:=by
 refine⟨by omega,?_⟩
 unfold findR at h ⊢
 cases hi:l.findIdx? (fun x=>decide (x.pos=a)) with
 |none=>rw[hi]at h; simp at h
 |some i =>
  have:=(List.findIdx?_eq_some_iff_getElem.1 hi).1
  simpa using this
def insF (v:Value) (ls:List Iv):List Nat:=rdF v ls.length++ls.flatMap fun x=>rdF x.2 x.1.args.length
theorem InsRd.of {H G:AHeap} {v:Value} {ls:List Iv} (h:InsRd H v ls) (hn:H.next<=G.next) (hg:∀ k∈insF v ls,G.get k=H.get k):InsRd G v ls :=
 ⟨h.rd.of hn fun k hk=>hg k (List.mem_append_left _ hk),fun x hx=>(h.av x hx).of hn fun k hk=>hg k (List.mem_append_right _ (List.mem_flatMap.2 ⟨x,hx,hk⟩)),fun x hx=>scb_mono hn _ (h.sc x hx)⟩
theorem InsRd.ne {H:AHeap} {v:Value} {ls:List Iv} (h:InsRd H v ls):∀ k∈insF v ls,H.get k≠none/\k<H.next:=fun k hk=>by
 rcases zB7.1 hk with hk|hk
 ·exact h.rd.ne k hk
 ·obtain⟨x,hx,hk⟩:=List.mem_flatMap.1 hk
  exact (h.av x hx).ne k hk
theorem give_bd {P:St->Prop} {ks ks':Ks} {i:Nat} {s:St} (h:giveR ks i s=some ks') (hk:∀ (j:Nat) (t:St),ks[j]?=some (some t)->P t) (hs:P s):∀ (j:Nat) (t:St),ks'[j]?=some (some t)->P t:=by
 unfold giveR at h
 split at h
 ·simp only[Option.some.injEq]at h
  subst h
  intro j t hj
  rcases zD3 i ks.length with hl|hl
  ·by_cases hji:j=i
   ·subst hji
    rw[List.getElem?_set_self hl]at hj
    simp only[Option.some.injEq]at hj
    exact hj▸hs
   ·rw[List.getElem?_set_ne (fun e=>hji e.symm)]at hj
    exact hk j t hj
  ·rw[List.set_eq_of_length_le hl]at hj
   exact hk j t hj
 ·split at h
  ·simp only[Option.some.injEq]at h
   subst h
   exact hk
  ·cases h
def tl3 (l:List Ins) (op:Nat) (args:List Int) (ts:St):Option Ks->Except Int Ks
 |none=>.error 9
 |some ks=>match givesR ks ((targsR op args).map fun t=>(findR l t).toNat) ts with
  |none=>.error 9
  |some ks=>.ok ks
def tl2 (l:List Ins) (ks:Ks) (i op:Nat) (args:List Int) (ns ts:St):Except Int Ks :=
 if (op≠10/\op≠15)/\i+1=l.length then .error 13 else tl3 l op args ts (if op≠10/\op≠15 then giveR ks (i+1) ns else some ks)
def tl1 (depth:Int) (l:List Ins) (ks:Ks) (i op:Nat) (args:List Int) (ns ts:St):Except Int Ks :=
 if deepR depth 200 1000 ns=true\/targsR op args≠[]/\deepR depth 200 1000 ts=true then .error 12 else tl2 l ks i op args ns ts
theorem prR_eq {depth:Int} {l:List Ins} {ks:Ks} {i:Nat} {x:Ins} {s:St} (h1:l[i]?=some x) (h2:ks.getD i none=some s) :
  prR depth l ks i=if missR x.op.toNat x.args s.h=true then .error 9 else if disR x.op.toNat x.args s=true then .error 19 else tl1 depth l ks i x.op.toNat x.args (aftR x.op.toNat x.args s).1 (aftR x.op.toNat x.args s).2:=by
 unfold prR procR tl1 tl2 tl3
 rw[h1,h2]
 rfl
theorem aft_len (op:Nat) (args:List Int) (s:St):(aftR op args s).1.fs.length<=s.fs.length+1/\(aftR op args s).2.fs.length<=s.fs.length+1:=by
 have hd:s.fs.dropLast.length<=s.fs.length:=by rw[List.length_dropLast]; omega
 unfold aftR
 simp only
 repeat' split
 all_goals simp only[zC6,zC7]
 all_goals omega
set_option maxRecDepth 100000
theorem ins_wf {l:List UInt8} (h:badA l=none):∀ x∈insA l,WfI x:=fun x hx=>encA_ok ((enc_of_dec h).2 x hx)
theorem encL_len:∀ ls:List Ins,ls.length<=(encL ls).length/\∀ x∈ls,x.args.length<=(encL ls).length
 |[]=>⟨zB1 _,fun x hx=>by cases hx⟩
 |y::r=>by
  obtain⟨h1,h2⟩:=encL_len r
  have hy:(encB y).length=1+2*y.args.length:=by
   rw[encB,zA8]
   have:∀ a:List Int,(a.flatMap fun a=>[a.toNat.toUInt8,(a.toNat / 256).toUInt8]).length=2*a.length:=by
    intro a
    induction a with
    |nil=>rfl
    |cons b a ih=>rw[zD1,zC6,ih]; simp only[zA8,zC5]; omega
   rw[this]
   omega
  have he:(encL (y::r)).length=(encB y).length+(encL r).length:=by simp[encL]
  rw[he,hy]
  refine⟨by rw[zA8]; omega,fun x hx=>?_⟩
  rcases zB0.1 hx with rfl|hx
  ·omega
  ·have:=h2 x hx; omega
theorem ins_len {l:List UInt8} (h:badA l=none):(insA l).length<=l.length/\∀ x∈insA l,x.args.length<=l.length:=by
 have:=encL_len (insA l)
 rw[(enc_of_dec h).1]at this
 exact this
theorem top_ok {s:St} (h:StOk s):0<=(topS s).bound/\(topS s).bound<=100000/\0<=(topS s).height/\(topS s).height<=100000:=by
 by_cases hn:s.fs=[]
 ·rw[topS,hn]; decide
 ·have hm:topS s∈s.fs:=by
   rw[topS,List.getLastD_eq_getLast?,List.getLast?_eq_some_getLast hn]
   exact List.getLast_mem hn
  have:=h.2.2.2.2.2 _ hm
  omega
theorem aft_ok {x:Ins} {s:St} (w:WfI x) (h:StOk s) (hm:missR x.op.toNat x.args s.h=false) (hd:disR x.op.toNat x.args s=false) {depth:Int} (hdp:depth<=1000) :
  (deepR depth 200 1000 (aftR x.op.toNat x.args s).1=false->StOk (aftR x.op.toNat x.args s).1)/\(deepR depth 200 1000 (aftR x.op.toNat x.args s).2=false->StOk (aftR x.op.toNat x.args s).2):=by
 obtain⟨op,hop⟩:∃ q,x.op.toNat=q:=⟨_,rfl⟩
 have hpos:=w.pos
 have hfst:=w.fst
 rw[hop]at hm hd hpos ⊢
 have hbd:=eff_bd op x.args fun h=>⟨hpos (by omega),hfst (hpos (by omega))⟩
 obtain⟨p,q,hpq⟩:∃ p q,effR op x.args=(p,q):=⟨_,_,rfl⟩
 have hmp:¬s.h<p:=by
  unfold missR at hm
  rw[hpq]at hm
  simp only[zF6,decide_eq_false_iff_not]at hm
  exact hm.1
 rw[hpq]at hbd
 simp only at hbd
 have ht:=top_ok h
 obtain⟨w1,w2,w3,w4,w5,w6⟩:=h
 have mkS:∀ t:St,deepR depth 200 1000 t=false->0<=t.h->0<=t.b->(∀ f∈t.fs,(0<=f.height/\f.height<=100000)/\0<=f.bound/\f.bound<=100000)->StOk t:=fun t h h1 h2 h3=>by
  unfold deepR at h
  simp only[zF6,decide_eq_false_iff_not]at h
  exact⟨h1,by omega,h2,by omega,by omega,h3⟩
 have app:∀ f:Fr,((0<=f.height/\f.height<=100000)/\0<=f.bound/\f.bound<=100000)->∀ g∈s.fs++[f],(0<=g.height/\g.height<=100000)/\0<=g.bound/\g.bound<=100000:=fun f hf g hg=>by
  rcases zB7.1 hg with hg|hg
  ·exact w6 g hg
  ·rw[zA4]at hg
   exact hg▸hf
 have drp:∀ g∈s.fs.dropLast,(0<=g.height/\g.height<=100000)/\0<=g.bound/\g.bound<=100000:=fun g hg=>w6 g (List.dropLast_subset _ hg)
 unfold aftR
 rw[hpq]
 simp only
 by_cases c1:op=13\/op=14
 ·rw[if_pos c1]
  exact⟨fun h=>mkS _ h (by dsimp only; omega) w3 w6,fun h=>mkS _ h w1 w3 w6⟩
 rw[if_neg c1]
 by_cases c2:op=7
 ·rw[if_pos c2]
  exact⟨fun h=>mkS _ h (by dsimp only; omega) (by dsimp only; omega) w6,fun h=>mkS _ h (by dsimp only; omega) w3 w6⟩
 rw[if_neg c2]
 by_cases c3:op=8
 ·rw[if_pos c3]
  have h8:(topS s).bound<=s.b-x.args.getD 0 0:=by
   rw[disR,if_pos c3,decide_eq_false_iff_not]at hd
   omega
  exact⟨fun h=>mkS _ h (by dsimp only; omega) (by dsimp only; omega) w6,fun h=>mkS _ h (by dsimp only; omega) w3 w6⟩
 rw[if_neg c3]
 by_cases c4:op=16\/op=17
 ·rw[if_pos c4]
  refine⟨fun h=>?_,fun h=>mkS _ h (by dsimp only; omega) w3 w6⟩
  have hdd:=h
  unfold deepR at hdd
  simp only[zF6,decide_eq_false_iff_not]at hdd
  exact mkS _ h (by dsimp only; omega) w3 (app _ ⟨(by dsimp only; omega),(by dsimp only; omega)⟩)
 rw[if_neg c4]
 by_cases c5:op=18
 ·rw[if_pos c5]
  refine⟨fun h=>?_,fun h=>?_⟩
  ·have hdd:=h
   unfold deepR at hdd
   simp only[zF6,decide_eq_false_iff_not]at hdd
   exact mkS _ h (by dsimp only; omega) w3 (app _ ⟨(by dsimp only; omega),(by dsimp only; omega)⟩)
  ·have hdd:=h
   unfold deepR at hdd
   simp only[zF6,decide_eq_false_iff_not]at hdd
   exact mkS _ h (by dsimp only; omega) w3 (app _ ⟨(by dsimp only; omega),(by dsimp only; omega)⟩)
 rw[if_neg c5]
 by_cases c6:op=19
 ·rw[if_pos c6]
  refine⟨fun h=>mkS _ h (by dsimp only; omega) w3 ?_,fun h=>mkS _ h (by dsimp only; omega) w3 w6⟩
  simp only
  split
  ·intro g hg
   rcases zB7.1 hg with hg|hg
   ·exact drp g hg
   ·rw[zA4]at hg
    subst hg
    simp only
    omega
  ·exact drp
 rw[if_neg c6]
 by_cases c7:op=20
 ·rw[if_pos c7]
  exact⟨fun h=>mkS _ h (by dsimp only; omega) w3 drp,fun h=>mkS _ h (by dsimp only; omega) w3 w6⟩
 rw[if_neg c7]
 exact⟨fun h=>mkS _ h (by dsimp only; omega) w3 w6,fun h=>mkS _ h (by dsimp only; omega) w3 w6⟩
theorem gives_bd {P:St->Prop}:∀ {r:List Nat} {ks ks':Ks} {s:St},givesR ks r s=some ks'->(∀ (j:Nat) (t:St),ks[j]?=some (some t)->P t)->P s->∀ (j:Nat) (t:St),ks'[j]?=some (some t)->P t
 |[],ks,ks',s,h,hk,_=>by
  simp only[givesR,Option.some.injEq]at h
  exact h▸hk
 |i::r,ks,ks',s,h,hk,hs=>by
  rw[givesR]at h
  cases hg:giveR ks i s with
  |none=>rw[hg]at h; cases h
  |some k1 =>
   rw[hg]at h
   exact gives_bd h (give_bd hg hk hs) hs
theorem pr_ok {depth:Int} {l:List Ins} {ks ks':Ks} {i:Nat} (hw:∀ x∈l,WfI x) (hk:KsOk ks) (hdp:depth<=1000) (h:prR depth l ks i=.ok ks'):KsOk ks':=by
 cases hx:l[i]? with
 |none=>unfold prR procR at h; rw[hx]at h; cases h
 |some x =>
  cases hs:ks.getD i none with
  |none=>unfold prR procR at h; rw[hx,hs]at h; cases h
  |some s =>
   rw[prR_eq hx hs]at h
   have hsk:StOk s:=by
    rw[zA9]at hs
    cases hj:ks[i]? with
    |none=>rw[hj]at hs; cases hs
    |some o=>rw[hj]at hs; exact hk i s (by rw[hj]; exact congrArg some hs)
   cases hm:missR x.op.toNat x.args s.h with
   |true=>rw[hm,if_pos rfl]at h; cases h
   |false =>
    rw[hm,if_neg (by simp)]at h
    cases hd:disR x.op.toNat x.args s with
    |true=>rw[hd,if_pos rfl]at h; cases h
    |false =>
     rw[hd,if_neg (by simp)]at h
     obtain⟨o1,o2⟩:=aft_ok (hw x (zF2 hx)) hsk hm hd hdp
     unfold tl1 at h
     split at h
     ·cases h
     ·rename_i hnd
      have n1:deepR depth 200 1000 (aftR x.op.toNat x.args s).1=false:=by
       cases hq:deepR depth 200 1000 (aftR x.op.toNat x.args s).1 with
       |false=>rfl
       |true=>exact absurd (.inl hq) hnd
      unfold tl2 at h
      split at h
      ·cases h
      ·have h1:∀ k1:Ks,(if x.op.toNat≠10/\x.op.toNat≠15 then giveR ks (i+1) (aftR x.op.toNat x.args s).1 else some ks)=some k1->KsOk k1:=fun k1 hk1=>by
        split at hk1
        ·exact give_bd hk1 hk (o1 n1)
        ·simp only[Option.some.injEq]at hk1
         exact hk1▸hk
       cases hg:(if x.op.toNat≠10/\x.op.toNat≠15 then giveR ks (i+1) (aftR x.op.toNat x.args s).1 else some ks) with
       |none=>rw[hg,tl3]at h; cases h
       |some k1 =>
        rw[hg,tl3]at h
        have hk1:=h1 k1 hg
        by_cases ht:targsR x.op.toNat x.args=[]
        ·rw[ht,zF3,givesR]at h
         simp only[Except.ok.injEq]at h
         exact h▸hk1
        ·have n2:deepR depth 200 1000 (aftR x.op.toNat x.args s).2=false:=by
          cases hq:deepR depth 200 1000 (aftR x.op.toNat x.args s).2 with
          |false=>rfl
          |true=>exact absurd (.inr ⟨ht,hq⟩) hnd
         cases hgs:givesR k1 ((targsR x.op.toNat x.args).map fun t=>(findR l t).toNat) (aftR x.op.toNat x.args s).2 with
         |none=>rw[hgs]at h; cases h
         |some k2 =>
          rw[hgs]at h
          simp only[Except.ok.injEq]at h
          exact h▸gives_bd hgs hk1 (o2 n2)
def verR (least most depth:Int) (cn:Nat) (bs:List UInt8):Except (Int × Int) Ks :=
 if headR least most depth cn=true then .error (3,0) else
 match badA bs with
 |some r=>.error (r.2,r.1.pos)
 |none =>
  if insA bs=[] then .error (13,0) else
  match statR (insA bs) cn with
  |some r=>.error r
  |none =>
   if deepR depth 200 1000 (entS (entR least most))=true then .error (12,0) else
   runR depth (insA bs) ((insA bs).length+1) ((List.replicate (insA bs).length none).set 0 (some (entS (entR least most)))) (List.replicate (insA bs).length false)
set_option maxRecDepth 100000
structure CpAt (b:Nat) (X:AHeap) (v:Value) (cs:List Iv):Prop where
 vs:VsAt X 59 3 v (insC cs) cs.length
 rd:∀ x∈cs,RdAt X 1 x.2 (iv x.1.args) x.1.args.length/\scb X.next x.2=true/\∀ n∈idsV x.2,b<=n/\n∉idsV v
 lo:∀ n∈idsV v,b<=n
set_option maxRecDepth 100000
end Go.Proofs.YtnigelgcjfhghaaGreatDoor
namespace Go.Ax
variable {P : Program} {H : AHeap}
end Go.Ax
namespace Go.Proofs.YtnigelgcjfhghaaGreatDoor
open Go.Ax
set_option maxRecDepth 100000
set_option maxRecDepth 100000
set_option maxRecDepth 100000
set_option maxRecDepth 100000
set_option maxRecDepth 100000
theorem pr_len {depth:Int} {l:List Ins} {ks ks':Ks} {i:Nat} (h:prR depth l ks i=.ok ks'):ks'.length=ks.length:=by
 cases hx:l[i]? with
 |none=>unfold prR procR at h; rw[hx]at h; cases h
 |some x =>
  cases hs:ks.getD i none with
  |none=>unfold prR procR at h; rw[hx,hs]at h; cases h
  |some s =>
   rw[prR_eq hx hs]at h
   unfold tl1 tl2 at h
   split at h
   ·cases h
   split at h
   ·cases h
   split at h
   ·cases h
   split at h
   ·cases h
   have key:∀ o:Option Ks,(∀ k,o=some k->k.length=ks.length)->tl3 l x.op.toNat x.args (aftR x.op.toNat x.args s).2 o=.ok ks'->ks'.length=ks.length:=fun o ho h=>by
    cases o with
    |none=>cases h
    |some k =>
     rw[tl3]at h
     cases hg:givesR k ((targsR x.op.toNat x.args).map fun t=>(findR l t).toNat) (aftR x.op.toNat x.args s).2 with
     |none=>rw[hg]at h; cases h
     |some k2 =>
      rw[hg]at h
      simp only[Except.ok.injEq]at h
      rw[<-h,gives_len hg,ho k rfl]
   refine key _ (fun k hk=>?_) h
   split at hk
   ·exact give_len hk
   ·simp only[Option.some.injEq]at hk
    rw[hk]
def HgtOut (r:Except (Int × Int) Ks) (out:Out) (X:AHeap):Prop :=
 match r with
 |.error (e,a)=>out=.ok (.tuple #[.slice none 0 0,fltV e a])
 |.ok ks=>∃ w,out=.ok (.tuple #[w,fltV 0 0])/\ArgA X w (hghR ks)
set_option maxRecDepth 100000
def SubK (ks ks':Ks):Prop:=∀ (j:Nat) (t:St),ks[j]?=some (some t)->ks'[j]?=some (some t)
theorem SubK.refl (ks:Ks):SubK ks ks:=fun _ _ h=>h
theorem SubK.trans {a b c:Ks} (h1:SubK a b) (h2:SubK b c):SubK a c:=fun j t h=>h2 j t (h1 j t h)
theorem kn_get {ks:Ks} {i:Nat} {s:St} (h:ks[i]?=some (some s)):ks.getD i none=some s:=by rw[zA9,h]; rfl
theorem kn_of {ks:Ks} {i:Nat} {s:St} (h:ks.getD i none=some s):ks[i]?=some (some s):=by
 rw[zA9]at h
 cases hj:ks[i]? with
 |none=>rw[hj]at h; cases h
 |some o=>rw[hj]at h; exact congrArg some h
theorem give_facts {ks ks':Ks} {i:Nat} {s:St} (h:giveR ks i s=some ks'):SubK ks ks'/\(i<ks.length->ks'[i]?=some (some s))/\∀ (j:Nat) (t:St),ks'[j]?=some (some t)->ks[j]?=some (some t)\/t=s:=by
 unfold giveR at h
 split at h
 ·rename_i hn
  simp only[Option.some.injEq]at h
  subst h
  refine⟨fun j t hj=>?_,fun hi=>List.getElem?_set_self hi,fun j t hj=>?_⟩
  ·rw[List.getElem?_set]
   split
   ·rename_i e
    subst e
    rw[kn_get hj]at hn
    cases hn
   ·exact hj
  ·rw[List.getElem?_set]at hj
   split at hj
   ·split at hj
    ·simp only[Option.some.injEq]at hj
     exact .inr hj.symm
    ·cases hj
   ·exact .inl hj
 ·rename_i t hn
  split at h
  ·rename_i e
   simp only[Option.some.injEq]at h
   subst h
   exact⟨SubK.refl _,fun _=>e▸kn_of hn,fun j t hj=>.inl hj⟩
  ·cases h
theorem gives_facts:∀ {r:List Nat} {ks ks':Ks} {s:St},givesR ks r s=some ks'->SubK ks ks'/\(∀ i∈r,i<ks.length->ks'[i]?=some (some s))/\∀ (j:Nat) (t:St),ks'[j]?=some (some t)->ks[j]?=some (some t)\/r≠[]/\t=s
 |[],ks,ks',s,h=>by
  simp only[givesR,Option.some.injEq]at h
  subst h
  exact⟨SubK.refl _,fun i hi=>(by cases hi),fun j t hj=>.inl hj⟩
 |i::r,ks,ks',s,h=>by
  rw[givesR]at h
  cases hg:giveR ks i s with
  |none=>rw[hg]at h; cases h
  |some k1 =>
   rw[hg]at h
   obtain⟨a1,a2,a3⟩:=give_facts hg
   obtain⟨b1,b2,b3⟩:=gives_facts h
   refine⟨a1.trans b1,fun j hj hl=>?_,fun j t hj=>?_⟩
   ·rcases zB0.1 hj with rfl|hj
    ·exact b1 _ _ (a2 hl)
    ·exact b2 j hj (by rw[give_len hg]; exact hl)
   ·rcases b3 j t hj with h|h
    ·rcases a3 j t h with h|h
     ·exact .inl h
     ·exact .inr ⟨by simp,h⟩
    ·exact .inr ⟨by simp,h.2⟩
structure FxAt (D:Int) (l:List Ins) (ks:Ks) (i:Nat) (x:Ins) (s:St):Prop where
 ins:l[i]?=some x
 miss:missR x.op.toNat x.args s.h=false
 dis:disR x.op.toNat x.args s=false
 deep:deepR D 200 1000 (aftR x.op.toNat x.args s).1=false
 next:x.op.toNat≠10/\x.op.toNat≠15->ks[i+1]?=some (some (aftR x.op.toNat x.args s).1)
 targ:∀ t∈targsR x.op.toNat x.args,(findR l t).toNat<ks.length->ks[(findR l t).toNat]?=some (some (aftR x.op.toNat x.args s).2)
theorem FxAt.sub {D:Int} {l:List Ins} {ks ks':Ks} {i:Nat} {x:Ins} {s:St} (h:FxAt D l ks i x s) (hs:SubK ks ks') (hl:ks'.length=ks.length):FxAt D l ks' i x s :=
 ⟨h.ins,h.miss,h.dis,h.deep,fun hn=>hs _ _ (h.next hn),fun t ht hlt=>hs _ _ (h.targ t ht (by omega))⟩
theorem pr_facts {D:Int} {l:List Ins} {ks ks':Ks} {i:Nat} {s:St} (hs:ks[i]?=some (some s)) (hl:ks.length=l.length) (h:prR D l ks i=.ok ks') :
  ∃ x,FxAt D l ks' i x s/\SubK ks ks'/\(targsR x.op.toNat x.args≠[]->deepR D 200 1000 (aftR x.op.toNat x.args s).2=false) /\
   (∀ (j:Nat) (t:St),ks'[j]?=some (some t)->ks[j]?=some (some t)\/(x.op.toNat≠10/\x.op.toNat≠15)/\t=(aftR x.op.toNat x.args s).1\/targsR x.op.toNat x.args≠[]/\t=(aftR x.op.toNat x.args s).2) /\
   ∀ d,prR d l ks i=if deepR d 200 1000 (aftR x.op.toNat x.args s).1=true\/targsR x.op.toNat x.args≠[]/\deepR d 200 1000 (aftR x.op.toNat x.args s).2=true then .error 12 else .ok ks':=by
 have hi:i<l.length:=by rw[<-hl]; exact (zE6.1 hs).1
 obtain⟨x,hx⟩:∃ x,l[i]?=some x:=⟨_,zA5 hi⟩
 rw[prR_eq hx (kn_get hs)]at h
 have hall:∀ d,prR d l ks i=_:=fun d=>prR_eq hx (kn_get hs)
 cases hm:missR x.op.toNat x.args s.h with
 |true=>rw[hm,if_pos rfl]at h; cases h
 |false =>
  rw[hm,if_neg (by simp)]at h
  cases hd:disR x.op.toNat x.args s with
  |true=>rw[hd,if_pos rfl]at h; cases h
  |false =>
   rw[hd,if_neg (by simp)]at h
   unfold tl1 at h
   split at h
   ·cases h
   ·rename_i hnd
    have n1:deepR D 200 1000 (aftR x.op.toNat x.args s).1=false:=by
     cases hq:deepR D 200 1000 (aftR x.op.toNat x.args s).1 with
     |false=>rfl
     |true=>exact absurd (.inl hq) hnd
    have n2:targsR x.op.toNat x.args≠[]->deepR D 200 1000 (aftR x.op.toNat x.args s).2=false:=fun ht=>by
     cases hq:deepR D 200 1000 (aftR x.op.toNat x.args s).2 with
     |false=>rfl
     |true=>exact absurd (.inr ⟨ht,hq⟩) hnd
    have hpd:∀ d,prR d l ks i=if deepR d 200 1000 (aftR x.op.toNat x.args s).1=true\/targsR x.op.toNat x.args≠[]/\deepR d 200 1000 (aftR x.op.toNat x.args s).2=true then .error 12 else .ok ks':=fun d=>by
     rw[hall d,hm,if_neg (by simp),hd,if_neg (by simp),tl1,h]
    unfold tl2 at h
    split at h
    ·cases h
    ·rename_i hend
     cases hg:(if x.op.toNat≠10/\x.op.toNat≠15 then giveR ks (i+1) (aftR x.op.toNat x.args s).1 else some ks) with
     |none=>rw[hg,tl3]at h; cases h
     |some k1 =>
      rw[hg,tl3]at h
      have g1:SubK ks k1/\k1.length=ks.length/\(x.op.toNat≠10/\x.op.toNat≠15->k1[i+1]?=some (some (aftR x.op.toNat x.args s).1))/\∀ (j:Nat) (t:St),k1[j]?=some (some t)->ks[j]?=some (some t)\/(x.op.toNat≠10/\x.op.toNat≠15)/\t=(aftR x.op.toNat x.args s).1:=by
       split at hg
       ·rename_i hc
        obtain⟨a1,a2,a3⟩:=give_facts hg
        refine⟨a1,give_len hg,fun _=>a2 ?_,fun j t hj=>(a3 j t hj).imp id fun h=>⟨hc,h⟩⟩
        have:¬i+1=l.length:=fun e=>hend ⟨hc,e⟩
        omega
       ·rename_i hc
        simp only[Option.some.injEq]at hg
        subst hg
        exact⟨SubK.refl _,rfl,fun h=>absurd h hc,fun j t hj=>.inl hj⟩
      obtain⟨a1,a2,a3,a4⟩:=g1
      cases hgs:givesR k1 ((targsR x.op.toNat x.args).map fun t=>(findR l t).toNat) (aftR x.op.toNat x.args s).2 with
      |none=>rw[hgs]at h; cases h
      |some k2 =>
       rw[hgs]at h
       simp only[Except.ok.injEq]at h
       subst h
       obtain⟨b1,b2,b3⟩:=gives_facts hgs
       have hkl:=gives_len hgs
       refine⟨x,⟨hx,hm,hd,n1,fun hc=>b1 _ _ (a3 hc),fun t ht hlt=>b2 _ (zD5.2 ⟨t,ht,rfl⟩) (by omega)⟩,a1.trans b1,n2,fun j t hj=>?_,hpd⟩
       rcases b3 j t hj with h|h
       ·exact (a4 j t h).imp id .inl
       ·exact .inr (.inr ⟨fun e=>h.1 (by rw[e]; rfl),h.2⟩)
theorem run_fix {D:Int} {l:List Ins}:∀ (n:Nat) {ks:Ks} {dn:List Bool} {ks':Ks},runR D l n ks dn=.ok ks'->leftR dn<n->ks.length=l.length->dn.length=l.length->(∀ i:Nat,dn.getD i false=true->∃ x s,ks[i]?=some (some s)/\FxAt D l ks i x s) ->
  SubK ks ks'/\ks'.length=l.length/\∀ (i:Nat) (s:St),ks'[i]?=some (some s)->∃ x,FxAt D l ks' i x s
 |0,_,_,_,_,hlt,_,_,_=>absurd hlt (by omega)
 |n+1,ks,dn,ks',h,hlt,hl,hdl,hinv=>by
  rw[runR]at h
  cases hn:nxtR ks dn with
  |none =>
   rw[hn]at h
   simp only[Except.ok.injEq]at h
   subst h
   refine⟨SubK.refl _,hl,fun i s hs=>?_⟩
   have hi:=(zE6.1 hs).1
   rw[nxtR,List.find?_eq_none]at hn
   have:=hn i (List.mem_range.2 hi)
   rw[knU,kn_get hs]at this
   obtain⟨x,s',h1,h2⟩:=hinv i (by simpa using this)
   rw[hs]at h1
   simp only[Option.some.injEq]at h1
   exact⟨x,h1▸h2⟩
  |some i =>
   simp only[hn]at h
   obtain⟨hi,⟨s,hs⟩,hdi,_⟩:=nxt_some hn
   cases hp:prR D l ks i with
   |error e=>rw[hp]at h; cases h
   |ok k1 =>
    rw[hp]at h
    obtain⟨x,hfx,hsub,_,hnew,_⟩:=pr_facts hs hl hp
    have hk1:k1.length=ks.length:=pr_len hp
    have hdi':dn[i]?=some false:=by
     rw[zA9,zA5 (by omega)]at hdi
     rw[zA5 (by omega)]
     exact congrArg some hdi
    have hleft:=left_set hdi'
    obtain⟨r1,r2,r3⟩:=run_fix n h (by omega) (by omega) (by rw[List.length_set]; exact hdl) (fun j hd=>by
     by_cases hji:j=i
     ·subst hji
      exact⟨x,s,hsub _ _ hs,hfx⟩
     ·have hd':dn.getD j false=true:=by
       rw[zA9,List.getElem?_set_ne (fun e=>hji e.symm),<-zA9]at hd
       exact hd
      obtain⟨y,t,h1,h2⟩:=hinv j hd'
      exact⟨y,t,hsub _ _ h1,h2.sub hsub hk1⟩)
    exact⟨hsub.trans r1,r2,r3⟩
theorem pr_at {D:Int} {l:List Ins} {ks ks':Ks} {i:Nat} (h:prR D l ks i=.ok ks'):∃ s,ks[i]?=some (some s):=by
 cases hx:l[i]? with
 |none=>unfold prR procR at h; rw[hx]at h; cases h
 |some x =>
  cases hs:ks.getD i none with
  |none=>unfold prR procR at h; rw[hx,hs]at h; cases h
  |some s=>exact⟨s,kn_of hs⟩
theorem stat_targ {l:List Ins} {cn:Nat} (h:statR l cn=none):∀ x∈l,∀ t∈targsR x.op.toNat x.args,0<=findR l t:=fun x hx t ht=>by
 rw[statR,List.findSome?_eq_none_iff]at h
 have:=h x hx
 unfold statO at this
 split at this
 ·cases this
 split at this
 ·cases this
 split at this
 ·cases this
 ·rename_i hn
  have h1:¬findR l t<0:=fun hlt=>hn (List.any_eq_true.2 ⟨t,ht,decide_eq_true hlt⟩)
  omega
theorem ent_get {n:Nat} {s:St} {j:Nat} {t:St} (h:((List.replicate n (none:Option St)).set 0 (some s))[j]?=some (some t)):t=s:=by
 rw[List.getElem?_set]at h
 split at h
 ·split at h
  ·simp only[Option.some.injEq]at h
   exact h.symm
  ·cases h
 ·rw[List.getElem?_replicate]at h
  split at h<;>cases h
theorem ver_ok {least most D:Int} {cn:Nat} {bs:List UInt8} {ks:Ks} (h:verR least most D cn bs=.ok ks) :
  headR least most D cn=false/\badA bs=none/\insA bs≠[]/\statR (insA bs) cn=none/\deepR D 200 1000 (entS (entR least most))=false /\
   runR D (insA bs) ((insA bs).length+1) ((List.replicate (insA bs).length none).set 0 (some (entS (entR least most)))) (List.replicate (insA bs).length false)=.ok ks:=by
 unfold verR at h
 split at h
 ·cases h
 rename_i h1
 split at h
 ·cases h
 rename_i h2
 split at h
 ·cases h
 rename_i h3
 split at h
 ·cases h
 rename_i h4
 split at h
 ·cases h
 rename_i h5
 exact⟨by simpa using h1,h2,h3,h4,by simpa using h5,h⟩
theorem ver_fix {least most D:Int} {cn:Nat} {bs:List UInt8} {ks:Ks} (h:verR least most D cn bs=.ok ks) :
  ks.length=(insA bs).length/\ks[0]?=some (some (entS (entR least most)))/\(∀ (i:Nat) (s:St),ks[i]?=some (some s)->∃ x,FxAt D (insA bs) ks i x s)/\(∀ x∈insA bs,∀ t∈targsR x.op.toNat x.args,0<=findR (insA bs) t):=by
 obtain⟨a1,a2,a3,a4,a5,a6⟩:=ver_ok h
 have hl:((List.replicate (insA bs).length (none:Option St)).set 0 (some (entS (entR least most)))).length=(insA bs).length:=by rw[List.length_set,List.length_replicate]
 have hpos:0<(insA bs).length:=List.length_pos_iff.2 a3
 obtain⟨b1,b2,b3⟩:=run_fix _ a6 (by rw[left_rep]; omega) hl (by rw[List.length_replicate]) (fun i hi=>by
  rw[zA9,List.getElem?_replicate]at hi
  split at hi<;>simp at hi)
 exact⟨b2,b1 0 _ (by rw[List.getElem?_set_self (by rw[List.length_replicate]; exact hpos)]),b3,stat_targ a4⟩
theorem run_bd {D:Int} {l:List Ins} (hw:∀ x∈l,WfI x) (hd:D<=1000):∀ (n:Nat) {ks:Ks} {dn:List Bool} {ks':Ks},runR D l n ks dn=.ok ks'->KsOk ks->KsOk ks'
 |0,_,_,_,h,hk=>by
  rw[runR]at h
  simp only[Except.ok.injEq]at h
  exact h▸hk
 |n+1,ks,dn,ks',h,hk=>by
  rw[runR]at h
  cases hn:nxtR ks dn with
  |none =>
   rw[hn]at h
   simp only[Except.ok.injEq]at h
   exact h▸hk
  |some i =>
   simp only[hn]at h
   cases hp:prR D l ks i with
   |error e=>rw[hp]at h; cases h
   |ok k1 =>
    rw[hp]at h
    exact run_bd hw hd n h (pr_ok hw hk hd hp)
theorem head_bd {least most D cn:Int} (h:headR least most D cn=false):0<=least/\least<=255/\0<=D/\D<=1000/\0<=entR least most/\entR least most<=256/\cn<=65536:=by
 unfold headR at h
 simp only[zF6,decide_eq_false_iff_not,Bool.and_eq_false_iff,Decidable.not_not]at h
 unfold entR
 split<;>omega
theorem ver_bd {least most D:Int} {cn:Nat} {bs:List UInt8} {ks:Ks} (h:verR least most D cn bs=.ok ks):KsOk ks:=by
 obtain⟨a1,a2,a3,a4,a5,a6⟩:=ver_ok h
 have hb:=head_bd a1
 refine run_bd (ins_wf a2) hb.2.2.2.1 _ a6 fun j t hj=>?_
 rw[ent_get hj]
 exact⟨hb.2.2.2.2.1,by show entR least most<=1000; omega,by show (0:Int)<=0; decide,by show (0:Int)<=1000; decide,by show 0<=200; decide,fun f hf=>(by cases hf)⟩
set_option maxRecDepth 100000
structure Wf where
 x:Ins
 h:Int
 b:Int
 c:Bool
def Wf.fr (f:Wf):Fr:=⟨if f.c=true then 19 else f.x.op,f.h,f.b⟩
structure Wk where
 at':Nat
 h:Int
 b:Int
 fs:List Wf
structure FOk (l:List Ins) (ks:Ks) (f:Wf) (below:List Fr):Prop where
 wf:WfI f.x
 op:f.x.op=16\/f.x.op=17\/f.x.op=18
 cl:f.c=true->f.x.op=18
 h:0<=f.h/\f.h<=100000
 b:0<=f.b/\f.b<=100000
 tg:f.c=false->∀ t∈targsR f.x.op.toNat f.x.args,0<=findR l t/\ks[(findR l t).toNat]?=some (some ⟨f.h+1,f.b,if f.x.op=18 then below++[⟨19,f.h,f.b⟩] else below⟩)
def FsOk (l:List Ins) (ks:Ks) (fs:List Wf):Prop:=∀ (k:Nat) (f:Wf),fs[k]?=some f->FOk l ks f ((fs.take k).map Wf.fr)
structure WkOk (l:List Ins) (ks:Ks) (w:Wk):Prop where
 st:ks[w.at']?=some (some ⟨w.h,w.b,w.fs.map Wf.fr⟩)
 fs:FsOk l ks w.fs
section
variable {l : List Ins} {ks : Ks} {fs : List Wf}
theorem FsOk.take (h:FsOk l ks fs) (k:Nat):FsOk l ks (fs.take k):=fun j f hj=>by
 have hjk:j<k:=by
  have:=(zE6.1 hj).1
  rw[zE1]at this
  omega
 rw[List.getElem?_take_of_lt hjk]at hj
 rw[List.take_take,Nat.min_eq_left (by omega)]
 exact h j f hj
theorem FsOk.snoc (h:FsOk l ks fs) {f:Wf} (hf:FOk l ks f (fs.map Wf.fr)):FsOk l ks (fs++[f]):=fun j g hj=>by
 rcases zD3 j fs.length with hlt|hge
 ·rw[List.getElem?_append_left hlt]at hj
  rw[List.take_append_of_le_length (by omega)]
  exact h j g hj
 ·rw[List.getElem?_append_right hge]at hj
  obtain⟨hj1,hj2⟩:=zE6.1 hj
  simp only[zC7]at hj1
  have e:j=fs.length:=by omega
  subst e
  simp only[Nat.sub_self,List.getElem_cons_zero]at hj2
  subst hj2
  rw[List.take_left]
  exact hf
theorem FOk.clean {f:Wf} {below:List Fr} (h:FOk l ks f below) (h18:f.x.op=18):FOk l ks {f with c:=true} below:=⟨h.wf,h.op,fun _=>h18,h.h,h.b,fun hc=>by cases hc⟩
def lvT (f:Wf) (n:Nat):Int :=
 if f.c=true then -1 else if f.x.op=18 then f.x.args.getD 0 0 else if f.x.op=16/\n % 2=0 then f.x.args.getD 0 0 else
 if f.x.op=17/\n % 3≠0/\0<f.x.args.getD 0 0 then f.x.args.getD (2+2*(n % (f.x.args.getD 0 0).toNat)) 0 else -1
theorem evens_get:∀ (l:List Int) (i:Nat),(evens l)[i]?=l[2*i]?
 |[],i=>by simp[evens]
 |[a],0=>rfl
 |[a],i+1=>by
  rw[zE3 (by simp[evens]),zE3 (by simp only[zC7]; omega)]
 |a::b::r,0=>rfl
 |a::b::r,i+1=>by
  rw[show evens (a::b::r)=a::evens r from rfl,zD7,evens_get r i,show 2*(i+1)=2*i+1+1 by omega,zD7,zD7]
theorem guard_args {x:Ins} (w:WfI x) (h:x.op=17):x.args≠[]/\x.args.length=1+2*(x.args.getD 0 0).toNat:=by
 have hl:=w.2.2.1
 rw[h,show kindsR (17:Int).toNat x.args=guardR x.args from rfl]at hl
 have hn:x.args≠[]:=fun e=>by rw[e]at hl; simp[guardR]at hl
 exact⟨hn,by rw[hl,guard_len hn]⟩
theorem lv_mem {f:Wf} {below:List Fr} (h:FOk l ks f below) (n:Nat):lvT f n=-1\/f.c=false/\0<=lvT f n/\lvT f n∈targsR f.x.op.toNat f.x.args:=by
 have hw:=h.wf
 unfold lvT
 by_cases hc:f.c=true
 ·rw[if_pos hc]; exact .inl rfl
 rw[if_neg hc]
 have hcf:f.c=false:=by simpa using hc
 have first:f.x.op=18\/f.x.op=16->0<=f.x.args.getD 0 0/\f.x.args.getD 0 0∈targsR f.x.op.toNat f.x.args:=fun ho=>by
  have hn:0<f.x.args.length:=hw.pos (by omega)
  refine⟨(hw.fst hn).1,?_⟩
  unfold targsR
  rw[if_pos (by omega)]
  exact zA4.2 rfl
 by_cases h18:f.x.op=18
 ·rw[if_pos h18]
  exact .inr ⟨hcf,first (.inl h18)⟩
 rw[if_neg h18]
 by_cases h16:f.x.op=16/\n % 2=0
 ·rw[if_pos h16]
  exact .inr ⟨hcf,first (.inr h16.1)⟩
 rw[if_neg h16]
 by_cases h17:f.x.op=17/\n % 3≠0/\0<f.x.args.getD 0 0
 ·rw[if_pos h17]
  obtain⟨h1,h2,h3⟩:=h17
  obtain⟨hn,hl⟩:=guard_args hw h1
  obtain⟨a,ha⟩:=Go.Ax.exq ((f.x.args.getD 0 0).toNat)
  rw[ha]at hl ⊢
  have hlt:n % a<a:=Nat.mod_lt _ (by omega)
  obtain⟨i,hi⟩:=Go.Ax.exq (n % a)
  rw[hi]at hlt ⊢
  have hil:2+2*i<f.x.args.length:=by omega
  right
  refine⟨hcf,?_,?_⟩
  ·rw[zA9,zA5 hil]
   exact (hw.2.2.2 _ (zF4 hil)).1
  ·unfold targsR
   rw[if_neg (by omega),if_pos (by omega)]
   have he:(evens (f.x.args.drop 2))[i]?=some (f.x.args.getD (2+2*i) 0):=by
    rw[evens_get,List.getElem?_drop,zA9,zA5 hil]
    rfl
   exact zF2 he
 ·rw[if_neg h17]; exact .inl rfl
def leavesP (l:List Ins) (fs:List Wf):Nat->Nat->Option Wk
 |0,_=>none
 |k+1,n=>match fs[k]? with
  |none=>none
  |some f=>if lvT f n<0 then leavesP l fs k (n / 3) else some ⟨(findR l (lvT f n)).toNat,f.h+1,f.b,fs.take k++(if f.x.op=18 then [{f with c:=true}] else [])⟩
theorem leaves_ok (h:FsOk l ks fs):∀ (k n:Nat) {w:Wk},leavesP l fs k n=some w->WkOk l ks w
 |0,_,_,hw=>by cases hw
 |k+1,n,w,hw=>by
  rw[leavesP]at hw
  cases hf:fs[k]? with
  |none=>rw[hf]at hw; cases hw
  |some f =>
   rw[hf]at hw
   simp only at hw
   split at hw
   ·exact leaves_ok h k _ hw
   ·rename_i hlt
    simp only[Option.some.injEq]at hw
    subst hw
    have hfk:=h k f hf
    rcases lv_mem hfk n with e|⟨hc,_,hm⟩
    ·rw[e]at hlt
     exact absurd (by decide) hlt
    ·obtain⟨h1,h2⟩:=hfk.tg hc _ hm
     have htk:=h.take k
     by_cases h18:f.x.op=18
     ·rw[if_pos h18]at h2 ⊢
      refine⟨?_,htk.snoc (hfk.clean h18)⟩
      rw[h2,zF5]
      rfl
     ·rw[if_neg h18]at h2 ⊢
      rw[zE2]
      exact⟨h2,htk⟩
def needR (op:Nat) (args:List Int):Int × Int :=
 if op=0\/op=5 then (0,1) else
 if op=1\/op=22 then (args.getD 0 0+1,1) else
 if op=2\/op=23 then (args.getD 0 0+2,-1) else
 if op=4\/op=9 then (args.getD 0 0+1,-args.getD 0 0) else
 if op=21\/op=25\/op=26\/op=27 then (1,0) else
 if op=8\/op=10\/op=17\/op=18\/op=19\/op=20 then (0,0) else
 if op=24 then ((args.drop 2).foldl (fun n a=>max n (a+1)) 0,1) else (1,-1)
theorem fold_need:∀ (as':List Int) (n h:Int),n<=h->(∀ a∈as',a<h)->as'.foldl (fun n a=>max n (a+1)) n<=h
 |[],_,_,h,_=>h
 |a::r,n,h,hn,ha=>by
  rw[List.foldl_cons]
  have:=ha a (zB8 ..)
  exact fold_need r _ h (by omega) fun b hb=>ha b (zB9 _ hb)
theorem need_ok {op:Nat} {args:List Int} {h:Int} (hh:0<=h) (hm:missR op args h=false):(needR op args).1<=h/\h+(needR op args).2=h-(effR op args).1+(effR op args).2:=by
 unfold missR at hm
 rw[zF6]at hm
 obtain⟨h1,h2⟩:=hm
 rw[decide_eq_false_iff_not]at h1
 unfold needR
 unfold effR at h1 ⊢
 by_cases c0:op=0\/op=5
 ·rw[if_pos c0,if_pos (by omega)]; exact⟨hh,by simp⟩
 rw[if_neg c0]
 by_cases c1:op=1\/op=22
 ·rw[if_pos c1]at h2 ⊢
  rw[decide_eq_false_iff_not]at h2
  rw[if_pos (by omega)]
  exact⟨by dsimp only; omega,by simp⟩
 rw[if_neg c1]at h2 ⊢
 by_cases c2:op=2\/op=23
 ·rw[if_pos c2]at h2 ⊢
  rw[decide_eq_false_iff_not]at h2
  rw[if_neg (by omega),if_neg (by omega),if_neg (by omega),if_neg (by omega)]
  exact⟨by dsimp only; omega,by dsimp only; omega⟩
 rw[if_neg c2]at h2 ⊢
 by_cases c3:op=4\/op=9
 ·rw[if_neg (by omega),if_pos c3]at h1
  rw[if_pos c3,if_neg (by omega),if_pos c3]
  dsimp only at h1 ⊢
  exact⟨by omega,by omega⟩
 rw[if_neg c3]
 by_cases c4:op=21\/op=25\/op=26\/op=27
 ·rw[if_neg (by omega),if_neg c3,if_pos c4]at h1
  rw[if_pos c4,if_neg (by omega),if_neg c3,if_pos c4]
  dsimp only at h1 ⊢
  exact⟨by omega,by omega⟩
 rw[if_neg c4]
 by_cases c5:op=8\/op=10\/op=17\/op=18\/op=19\/op=20
 ·rw[if_pos c5,if_neg (by omega),if_neg c3,if_neg c4,if_pos c5]
  dsimp only
  exact⟨by omega,by omega⟩
 rw[if_neg c5]
 by_cases c6:op=24
 ·rw[if_pos c6]at h2 ⊢
  rw[if_pos (by omega)]
  refine⟨?_,by simp⟩
  dsimp only
  refine fold_need _ _ _ hh fun a ha=>?_
  rw[List.any_eq_false]at h2
  have:=h2 a ha
  rw[decide_eq_true_eq]at this
  omega
 ·rw[if_neg (by omega),if_neg c3,if_neg c4,if_neg c5]at h1
  rw[if_neg c6,if_neg (by omega),if_neg c3,if_neg c4,if_neg c5]
  dsimp only at h1 ⊢
  exact⟨by omega,by omega⟩
def chgB (op:Nat) (args:List Int) (b:Int):Int:=if op=7 then b+1 else if op=8 then b-args.getD 0 0 else b
def chgF (x:Ins) (h b:Int) (fs:List Wf):List Wf :=
 if x.op.toNat=16\/x.op.toNat=17\/x.op.toNat=18 then fs++[⟨x,h,b,false⟩] else
 if x.op.toNat=19 then (match fs.getLast? with
  |some f=>if f.x.op=18 then fs.dropLast++[{f with c:=true}] else fs.dropLast
  |none=>fs) else
 if x.op.toNat=20 then fs.dropLast else fs
theorem last_get {f:Wf} (h:fs.getLast?=some f):fs[fs.length-1]?=some f/\0<fs.length/\fs.dropLast=fs.take (fs.length-1):=by
 rw[List.getLast?_eq_getElem?]at h
 have:=(zE6.1 h).1
 exact⟨h,by omega,List.dropLast_eq_take⟩
theorem top_fr {h b:Int} {f:Wf} (hf:fs.getLast?=some f):topS ⟨h,b,fs.map Wf.fr⟩=f.fr:=by
 unfold topS
 rw[List.getLastD_eq_getLast?,List.getLast?_map,hf]
 rfl
theorem top_nil {h b:Int} (hf:fs=[]):topS ⟨h,b,fs.map Wf.fr⟩=⟨-1,0,0⟩:=by rw[hf]; rfl
theorem done_ok {x:Ins} {h b:Int} (hd:disR x.op.toNat x.args ⟨h,b,fs.map Wf.fr⟩=false) (ho:x.op.toNat=19\/x.op.toNat=20) (hfs:FsOk l ks fs):∃ f,fs.getLast?=some f/\f.c=decide (x.op.toNat=20)/\h=f.h+1/\b=f.b:=by
 unfold disR at hd
 rw[if_neg (by omega)]at hd
 cases hl:fs.getLast? with
 |none =>
  rw[List.getLast?_eq_none_iff]at hl
  rw[top_nil hl]at hd
  rcases ho with ho|ho
  ·rw[if_pos ho]at hd
   simp at hd
  ·rw[if_neg (by omega),if_pos ho]at hd
   simp at hd
 |some f =>
  rw[top_fr hl]at hd
  obtain⟨h1,h2,_⟩:=last_get hl
  have hfk:=hfs _ f h1
  refine⟨f,rfl,?_⟩
  obtain⟨K,hK⟩:=Go.Ax.exq ((if f.c=true then (19:Int) else f.x.op))
  have e:f.fr=⟨K,f.h,f.b⟩:=by unfold Wf.fr; rw[hK]
  rw[e]at hd
  have hop:=hfk.op
  rcases ho with ho|ho
  ·rw[if_pos ho]at hd
   rw[decide_eq_false (by omega)]
   simp only[zF6,Bool.not_eq_false',zA7,Bool.or_eq_true,decide_eq_true_eq]at hd
   obtain⟨⟨d1,d2⟩,d3⟩:=hd
   refine⟨?_,d1,d2⟩
   cases hc:f.c with
   |false=>rfl
   |true=>rw[hc,if_pos rfl]at hK; omega
  ·rw[if_neg (by omega),if_pos ho]at hd
   rw[decide_eq_true ho]
   simp only[zF6,Bool.not_eq_false',zA7,decide_eq_true_eq]at hd
   obtain⟨⟨d1,d2⟩,d3⟩:=hd
   refine⟨?_,d1,d2⟩
   cases hc:f.c with
   |true=>rfl
   |false =>
    rw[hc,if_neg (by decide)]at hK
    omega
theorem ret_ok {args:List Int} {h b:Int} (hb:0<=b) (hd:disR 15 args ⟨h,b,fs.map Wf.fr⟩=false):fs=[]/\b=0:=by
 unfold disR at hd
 rw[if_neg (by decide),if_neg (by decide),if_neg (by decide),if_pos rfl,zF6,decide_eq_false_iff_not,decide_eq_false_iff_not]at hd
 obtain⟨h1,h2⟩:=hd
 have h2':¬0<b:=h2
 refine⟨?_,by omega⟩
 cases fs with
 |nil=>rfl
 |cons f r=>exact absurd (by simp) h1
theorem unb_ok {args:List Int} {h b:Int} (hd:disR 8 args ⟨h,b,fs.map Wf.fr⟩=false) (hfs:FsOk l ks fs):0<=b-args.getD 0 0/\∀ f,fs.getLast?=some f->f.b<=b-args.getD 0 0:=by
 unfold disR at hd
 rw[if_pos rfl,decide_eq_false_iff_not]at hd
 cases hl:fs.getLast? with
 |none =>
  rw[List.getLast?_eq_none_iff]at hl
  rw[top_nil hl]at hd
  exact⟨by dsimp only at hd; omega,fun f hf=>by cases hf⟩
 |some f =>
  rw[top_fr hl]at hd
  obtain⟨h1,h2,_⟩:=last_get hl
  have hfk:=hfs _ f h1
  have:=hfk.b
  simp only[Wf.fr]at hd
  refine⟨by omega,fun g hg=>?_⟩
  simp only[Option.some.injEq]at hg
  subst hg
  omega
theorem chg_ok {D:Int} {i:Nat} {x:Ins} {h b:Int} (hw:WfI x) (hst:∀ t∈targsR x.op.toNat x.args,0<=findR l t) (hlen:ks.length=l.length) (hfx:FxAt D l ks i x ⟨h,b,fs.map Wf.fr⟩) (hfs:FsOk l ks fs) (hh:0<=h/\h<=1000) (hb:0<=b/\b<=1000) :
  FsOk l ks (chgF x (h+(needR x.op.toNat x.args).2) b fs)/\(aftR x.op.toNat x.args ⟨h,b,fs.map Wf.fr⟩).1=⟨h+(needR x.op.toNat x.args).2,chgB x.op.toNat x.args b,(chgF x (h+(needR x.op.toNat x.args).2) b fs).map Wf.fr⟩ /\
   (x.op.toNat=13\/x.op.toNat=14->(aftR x.op.toNat x.args ⟨h,b,fs.map Wf.fr⟩).2=⟨h,b,fs.map Wf.fr⟩)/\(x.op.toNat=10\/x.op.toNat=11\/x.op.toNat=12->(aftR x.op.toNat x.args ⟨h,b,fs.map Wf.fr⟩).2=⟨h+(needR x.op.toNat x.args).2,b,fs.map Wf.fr⟩):=by
 obtain⟨n1,n2⟩:=need_ok hh.1 hfx.miss
 have htg:=hfx.targ
 have hdis:=hfx.dis
 have hpos:=hw.pos
 have h0:=hw.1
 obtain⟨pos,opI,args⟩:=x
 simp only at n1 n2 htg hdis hst hpos h0 ⊢
 obtain⟨op,rfl⟩:∃ op:Nat,opI=op:=⟨opI.toNat,by omega⟩
 rw[zB5]at n1 n2 htg hdis hst hpos ⊢
 rw[n2]
 obtain⟨h',hh'⟩:∃ q,h-(effR op args).1+(effR op args).2=q:=⟨_,rfl⟩
 have hbd:0<=h'/\h'<=100000\/¬(op=16\/op=17\/op=18):=by
  by_cases hc:op=16\/op=17\/op=18
  ·left
   rw[<-hh']
   rcases hc with rfl|rfl|rfl
   ·have:(effR 16 args)=(1,0):=rfl
    rw[this]
    have h1:(needR 16 args).1=1:=rfl
    rw[h1]at n1
    dsimp only
    omega
   ·have:(effR 17 args)=(0,0):=rfl
    rw[this]
    dsimp only
    omega
   ·have:(effR 18 args)=(0,0):=rfl
    rw[this]
    dsimp only
    omega
  ·exact .inr hc
 unfold chgF chgB
 unfold aftR at htg ⊢
 rw[hh']at htg ⊢
 simp only[zB5]at htg ⊢
 by_cases c1:op=13\/op=14
 ·rw[if_pos c1,if_neg (by omega),if_neg (by omega),if_neg (by omega),if_neg (by omega),if_neg (by omega)]
  exact⟨hfs,rfl,fun _=>rfl,fun h=>by omega⟩
 rw[if_neg c1]at htg ⊢
 by_cases c2:op=7
 ·rw[if_pos c2,if_pos c2,if_neg (by omega),if_neg (by omega),if_neg (by omega)]
  exact⟨hfs,rfl,fun h=>by omega,fun h=>by omega⟩
 rw[if_neg c2]at htg ⊢
 rw[if_neg c2]
 by_cases c3:op=8
 ·rw[if_pos c3,if_pos c3,if_neg (by omega),if_neg (by omega),if_neg (by omega)]
  exact⟨hfs,rfl,fun h=>by omega,fun h=>by omega⟩
 rw[if_neg c3]at htg ⊢
 rw[if_neg c3]
 by_cases c4:op=16\/op=17
 ·rw[if_pos c4]at htg ⊢
  rw[if_pos (by omega)]
  refine⟨hfs.snoc ⟨hw,(by dsimp only; omega),(fun h=>by cases h),(by dsimp only; omega),(by dsimp only; omega),fun _ t ht=>?_⟩,?_,fun h=>by omega,fun h=>by omega⟩
  ·simp only[zB5]at ht ⊢
   have h1:=hst t ht
   have h2:=htg t ht (by rw[hlen]; exact (find_lt h1).2)
   rw[if_neg (by omega)]
   exact⟨h1,h2⟩
  ·rw[zF5]
   rfl
 rw[if_neg c4]at htg ⊢
 by_cases c5:op=18
 ·rw[if_pos c5]at htg ⊢
  rw[if_pos (by omega)]
  refine⟨hfs.snoc ⟨hw,(by dsimp only; omega),(fun h=>by cases h),(by dsimp only; omega),(by dsimp only; omega),fun _ t ht=>?_⟩,?_,fun h=>by omega,fun h=>by omega⟩
  ·simp only[zB5]at ht ⊢
   have h1:=hst t ht
   have h2:=htg t ht (by rw[hlen]; exact (find_lt h1).2)
   rw[if_pos (by omega)]
   exact⟨h1,h2⟩
  ·rw[zF5,c5]
   rfl
 rw[if_neg c5]at htg ⊢
 rw[if_neg (show ¬(op=16\/op=17\/op=18) by omega)]
 by_cases c6:op=19
 ·rw[if_pos c6]at htg ⊢
  rw[if_pos c6]
  obtain⟨f,hl,hc,_,_⟩:=done_ok (x:=⟨pos,(op:Int),args⟩) (by simp only[zB5]; exact hdis) (by simp only[zB5]; omega) hfs
  simp only[zB5]at hc
  rw[decide_eq_false (by omega)]at hc
  obtain⟨g1,g2,g3⟩:=last_get hl
  have hfk:=hfs _ f g1
  rw[hl,top_fr hl]
  have hk:f.fr.kind=f.x.op:=by
   show (if f.c=true then 19 else f.x.op)=f.x.op
   rw[hc]
   rfl
  rw[hk]
  simp only
  by_cases h18:f.x.op=18
  ·rw[if_pos h18,if_pos h18,g3]
   refine⟨(hfs.take _).snoc (hfk.clean h18),?_,fun h=>by omega,fun h=>by omega⟩
   rw[zF5,<-List.map_dropLast,g3]
   rfl
  ·rw[if_neg h18,if_neg h18,g3]
   refine⟨hfs.take _,?_,fun h=>by omega,fun h=>by omega⟩
   rw[<-List.map_dropLast,g3]
 rw[if_neg c6]at htg ⊢
 rw[if_neg c6]
 by_cases c7:op=20
 ·rw[if_pos c7]at htg ⊢
  rw[if_pos c7]
  refine⟨?_,?_,fun h=>by omega,fun h=>by omega⟩
  ·rw[List.dropLast_eq_take]
   exact hfs.take _
  ·rw[List.map_dropLast]
 rw[if_neg c7]
 rw[if_neg c7]
 exact⟨hfs,rfl,fun h=>by omega,fun _=>rfl⟩
end
end Go.Proofs.YtnigelgcjfhghaaGreatDoor
namespace Go.Ax
section
variable {P : Program} {H : AHeap} {N : Nat} {E : Env} {ds : List Deferred} {ops : Array Oper} {anc : List Nat} {d : Nat} {ty : TypeId} {pos : String} {after : Array Edge} {rest : List Oper} {i : Nat} {fps : List Fp} {Q : AAct -> AHeap -> Prop}
theorem wd_neg {x:Operand} {t:TypeId} (hx:opOk P N x=true) (hd:d<N) (h:(negV (opv E x)).isSome=true):wkD P ops anc (⟨some d,.unOp .neg t x,ty,pos,after,none⟩::rest) i fps (mkA N E ds) H Q=valD P ops anc rest i fps N E ds d H Q (negV (opv E x)) :=
 wd_rv rfl (by
  simp only[aop,xUn,aeval_opv hx,zA1,zA3]
  cases hv:opv E x with
  |int k n=>rfl
  |_=>rw[hv]at h; cases h) hd
end
end Go.Ax
namespace Go.Proofs.YtnigelgcjfhghaaGreatDoor
open Go.Ax
set_option maxRecDepth 100000
def wkC (least most depth:Int) (u p lv hv:Value) (a h b:Int) (fv:Value):List Value:=[.int .i64 least,.int .i64 most,.int .i64 depth,u,p,lv,hv,.int .i64 a,.int .i64 h,.int .i64 b,fv]
theorem need_fold (args:List Int) (j:Nat) {xa:Int} (h2:2<=j) (h:args[j]?=some xa):((args.take (j+1)).drop 2).foldl (fun n a=>max n (a+1)) 0=max (((args.take j).drop 2).foldl (fun n a=>max n (a+1)) 0) (xa+1):=by
 have hj:=(zE6.1 h).1
 rw[List.take_add_one,h,List.drop_append_of_le_length (by rw[zE1]; omega),List.foldl_append]
 rfl
theorem need61_c (H:AHeap) (pos:Int) (op:Nat) (av:Value) (args:List Int) (hop:op<28) (ha:RdAt H 1 av (iv args) args.length) (hal:args.length<=1000000) (hpos:op=1\/op=22\/op=2\/op=23\/op=4\/op=9->0<args.length) (hb5:∀ y∈args,0<=y/\y<=65535) :
  Pure 61 [.agg ⟨[.int .i64 pos,.int .i64 (op:Int),av]⟩] H (.tuple #[.int .i64 (needR op args).1,.int .i64 (needR op args).2]):=by
 obtain⟨b,hb⟩:=Go.Ax.exq H.next
 obtain⟨a0,c0,e0⟩:=ha.sl
 refine callS_fn mixed Tryz.func61 rfl Tryz.ntmps61 (zB3 rfl) fun wf hsc=>?_
 have hok:=wf.base
 have hbase:H.base<=b:=hb▸hok
 rw[scbL_iff]at hsc
 have hsc0:=hsc _ (zB8 ..)
 rw[hb,e0]at hsc0
 replace hsc0:scb b (.slice a0 args.length c0)=true:=sc_agg3 hsc0
 have hT:∀ i:Decidable True,@decide True i=true:=fun i=>by simp
 have hF:∀ i:Decidable False,@decide False i=false:=fun i=>by simp
 rw[e0]
 obtain⟨X,hX⟩:=Go.Ax.exq (ext H [⟨59,false,[.int .i64 pos,.int .i64 (op:Int),.slice a0 args.length c0]⟩])
 have mX:Mod [] H X:=hX▸Mod.ext hok
 have nX:X.next=b+1:=by rw[<-hX,ext_next,hb]; rfl
 have kX:bk X (b+0)=some ⟨59,false,[.int .i64 pos,.int .i64 (op:Int),.slice a0 args.length c0]⟩:=by rw[<-hX,bk_at hb (by simp)]; rfl
 have hbx:b+0<b+1:=by omega
 have haX:=ha.mod0 mX
 rw[e0]at haX
 by_cases hA:op=1\/op=22\/op=2\/op=23\/op=4\/op=9
 ·have hl:=hpos hA
  obtain⟨n,off,s,c,e,o,M,e2,n1,r1,m1⟩:=haX.one hl
  have e3:=e2
  simp only[Value.slice.injEq]at e3
  obtain⟨rfl,-,rfl⟩:=e3
  rw[iv_get,zA5 hl,zA6]at m1
  have hg:args.getD 0 0=args[0]:=by rw[zA9,zA5 hl]; rfl
  have i1:aIndexAddr Tryz.prog 35 (.slice (some ⟨n,off,s⟩) args.length c0) (.int .i64 0)=some (.pointer (some ⟨n,off+0,none⟩)):=ia_of (i:=0) u35 s3 hl
  rw[nX]at n1
  have hx:=hb5 _ (zF4 hl)
  have hw1:IntKind.i64.wrap (args[0]+1)=args[0]+1:=wrap_sm (by omega) (by omega)
  have hw2:IntKind.i64.wrap (args[0]+2)=args[0]+2:=wrap_sm (by omega) (by omega)
  have hw3:IntKind.i64.wrap ((0:Int)-args[0])=-args[0]:=by
   have h0:=wrap_sm (n:=(0:Int)-args[0]) (by omega) (by omega)
   exact Eq.trans h0 (by omega)
  have hn:needR op args=if op=1\/op=22 then (args[0]+1,(1:Int)) else if op=2\/op=23 then (args[0]+2,-1) else (args[0]+1,-args[0]):=by
   unfold needR
   rw[hg,if_neg (by omega)]
   split
   ·rfl
   split
   ·rfl
   ·rw[if_pos (by omega)]
  rw[hn]
  simp only[hb,hsc0,ruW,xF,ruU,entryE,Nat.reduceLT,Nat.reduceAdd,Nat.reduceEqDiff]
  rw[hX]
  rw[show X=ext X [] from rfl]
  by_cases hB:op=4\/op=9
  ·rcases hB with rfl|rfl
   all_goals
    simp only[zB6]at kX
    simp only[zB6,Int.reduceEq,hT,hF,ruW,ruU,Nat.reduceLT,Nat.reduceEqDiff]
    refine w_drawB [] [] (by kernel_rfl) (by kernel_rfl) rfl fun ops anc hA hG=>?_
    simp only[nX,kX,hbx,i1,n1,r1,m1,hw1,hw3,qk_old,wd_neg,Tryz.results61,ruD,ruW,xF,ruU,Nat.reduceLT,Nat.reduceAdd,Nat.reduceEqDiff]
    exact Ax.Fin.mod rfl mX rfl
  have hA':op=1\/op=22\/op=2\/op=23:=by omega
  rcases hA' with rfl|rfl|rfl|rfl
  all_goals
   simp only[zB6]at kX
   simp only[zB6,Int.reduceEq,nX,kX,hbx,hT,hF,i1,n1,r1,m1,hw1,hw2,qk_old,Tryz.results61,ruW,xF,ruU,Nat.reduceLT,Nat.reduceAdd,Nat.reduceEqDiff]
   exact Ax.Fin.mod rfl mX rfl
 ·have hbx2:b<b+1:=by omega
  simp only[hb,hsc0,ruW,xF,ruU,entryE,Nat.reduceLT,Nat.reduceAdd,Nat.reduceEqDiff]
  rw[hX]
  rw[show X=ext X [] from rfl]
  by_cases h24:op=24
  ·subst h24
   have hn:needR 24 args=((args.drop 2).foldl (fun n a=>max n (a+1)) 0,1):=rfl
   rw[hn]
   simp only[zB6]at kX
   simp only[zB6,Int.reduceEq,hT,hF,ruW,ruU,Nat.reduceLT,Nat.reduceEqDiff]
   refine w_env fun E hE=>?_
   have g1:E 1=.pointer (some ⟨b+0,0,none⟩):=by rw[hE]; rfl
   have g4:E 4=.int .i64 (((args.take 2).drop 2).foldl (fun n a=>max n (a+1)) 0):=by
    rw[hE,List.drop_eq_nil_of_le (by rw[zE1]; omega)]
    simp only[ruU,Nat.reduceEqDiff]
    rfl
   have g5:E 5=.int .i64 ((2:Nat):Int):=by rw[hE]; rfl
   clear hE
   refine w_loop (fun (j:Nat) E' X'=>X'=ext X []/\2<=j/\j<=args.length+2/\E' 1=.pointer (some ⟨b+0,0,none⟩)/\E' 4=.int .i64 (((args.take j).drop 2).foldl (fun n a=>max n (a+1)) 0)/\E' 5=.int .i64 (j:Int)) (fun j=>args.length+2-j) 2 ⟨rfl,zB1 _,by omega,g1,g4,g5⟩ ?_
   clear g1 g4 g5 E
   rintro j E X' ⟨hX',h2j,hj,g1,g4,g5⟩
   rw[hX']
   by_cases hje:args.length<=j
   ·have hdj:decide ((j:Int)<(args.length:Int))=false:=decide_eq_false (by omega)
    rw[zE8 hje]at g4
    simp only[g1,g4,g5,nX,kX,hbx,hdj,qk_old,Tryz.results61,ruW,xF,ruU,Nat.reduceLT,Nat.reduceAdd,Nat.reduceEqDiff]
    exact Ax.Fin.mod rfl mX rfl
   ·have hjl:j<args.length:=by omega
    have hdj:decide ((j:Int)<(args.length:Int))=true:=decide_eq_true (by omega)
    obtain⟨n,off,s,c,e,o,M,e2,n1,r1,m1⟩:=haX.one hjl
    have e3:=e2
    simp only[Value.slice.injEq]at e3
    obtain⟨ea,-,ec⟩:=e3
    have kX':=kX
    rw[ea]at kX'
    have hxa0:args[j]?=some args[j]:=zA5 hjl
    have hbj:=hb5 _ (zF4 hjl)
    rw[iv_get,hxa0,zA6]at m1
    have i1:=ia_of (P:=Tryz.prog) (k:=.i64) (i:=j) (n:=n) (off:=off) (len:=args.length) (cap:=c0) (s:=s) u35 s3 hjl
    rw[zD0]at i1
    rw[nX]at n1
    have hf:=need_fold args j h2j hxa0
    obtain⟨xa,hxa⟩:=Go.Ax.exq (args[j])
    rw[hxa]at m1 hf hbj
    have hw:IntKind.i64.wrap ((j:Int)+1)=((j+1:Nat):Int):=wrap_succ (by omega)
    have hwx:IntKind.i64.wrap (xa+1)=xa+1:=wrap_sm (by omega) (by omega)
    simp only[g1,g4,g5,nX,kX',hbx,hdj,i1,n1,r1,m1,hw,hwx,qk_old,ruW,xF,ruU,Nat.reduceLT,Nat.reduceAdd,Nat.reduceEqDiff]
    refine loopC_next ⟨j+1,by omega,rfl,by omega,by omega,?_,?_,?_⟩
    ·exact g1
    ·rw[hf]; simp only[ruU,Nat.reduceEqDiff]
    ·rfl
  have hcs:op=0\/op=3\/op=5\/op=6\/op=7\/op=8\/op=10\/op=11\/op=12\/op=13\/op=14\/op=15\/op=16\/op=17\/op=18\/op=19\/op=20\/op=21\/op=25\/op=26\/op=27:=by omega
  rcases hcs with rfl|rfl|rfl|rfl|rfl|rfl|rfl|rfl|rfl|rfl|rfl|rfl|rfl|rfl|rfl|rfl|rfl|rfl|rfl|rfl|rfl
  all_goals
   simp only[zB6]at kX
   simp only[zB6,Int.reduceEq,hT,hF,Tryz.results61,ruW,ruU,Nat.reduceLT,Nat.reduceEqDiff]
   exact Ax.Fin.mod rfl mX rfl
theorem index90_c (H:AHeap) (n:Nat) (least most depth:Int) (u p lv hv fv:Value) (a h bd t:Int) (ls:List Iv) (hk:bk H n=some ⟨68,false,wkC least most depth u p lv hv a h bd fv⟩) (hn:n<H.next) (hi:InsRd H lv ls) (hl:ls.length<=1000000) :
  Pure 90 [.pointer (some ⟨n,0,none⟩),.int .i64 t] H (.int .i64 (findR (ls.map (·.1)) t)):=by
 obtain⟨x,hx⟩:=Go.Ax.exq H.next
 rw[hx]at hn
 obtain⟨a0,c0,e0⟩:=hi.rd.sl
 refine callS_fn mixed Tryz.func90 rfl Tryz.ntmps90 (zB3 rfl) fun wf hsc=>?_
 unfold wkC at hk
 simp only[ruW,ruU,entryE,Nat.reduceLT,Nat.reduceAdd]
 refine w_env fun E hE=>?_
 have g0:E 0=.pointer (some ⟨n,0,none⟩):=by rw[hE]; rfl
 have g1:E 1=.int .i64 t:=by rw[hE]; rfl
 have g5:E 5=.int .i64 ((0:Nat):Int):=by rw[hE]; rfl
 clear hE
 refine w_loop (fun (j:Nat) E' H'=>H'=ext H []/\j<=ls.length/\(∀ k,k<j->∀ y,(ls.map (·.1))[k]?=some y->y.pos≠t)/\E' 0=.pointer (some ⟨n,0,none⟩)/\E' 1=.int .i64 t/\E' 5=.int .i64 (j:Int)) (fun j=>ls.length-j) 0 ⟨rfl,zC0 _,fun k hk=>absurd hk (by omega),g0,g1,g5⟩ ?_
 clear g0 g1 g5 E
 rintro j E H' ⟨hH,hj,hall,g0,g1,g5⟩
 rw[hH]
 by_cases hje:j=ls.length
 ·have hdj:decide ((j:Int)<(ls.length:Int))=false:=decide_eq_false (by omega)
  rw[e0]at hk
  simp only[g0,g5,hx,hk,hn,hdj,qk_old,Tryz.results90,ruW,xF,ruU,Nat.reduceLT,Nat.reduceAdd,Nat.reduceEqDiff]
  rw[find_not fun k y hy=>hall k (by have:=(zE6.1 hy).1; rw[zC8]at this; omega) y hy]
  exact Fin.pureE rfl rfl
 ·have hjl:j<ls.length:=by omega
  have hdj:decide ((j:Int)<(ls.length:Int))=true:=decide_eq_true (by omega)
  obtain⟨y,hy⟩:∃ y,ls[j]?=some y:=⟨_,zA5 hjl⟩
  have hym:(ls.map (·.1))[j]?=some y.1:=by rw[zE5,hy]; rfl
  obtain⟨n2,off,s,c,e,o,M,e1,n1,r1,ia,_,l0,_,_⟩:=hi.fld hy
  rw[hx]at n1
  rw[e1]at hk ia
  have hw:IntKind.i64.wrap ((j:Int)+1)=((j+1:Nat):Int):=wrap_succ (by omega)
  obtain⟨d,hd⟩:=Go.Ax.exq (decide (y.1.pos=t))
  simp only[g0,g1,g5,hx,hk,hn,hdj,ia,n1,r1,l0,hd,qk_old,ruW,xF,ruU,Nat.reduceLT,Nat.reduceAdd,Nat.reduceEqDiff]
  cases d with
  |true =>
   have:=of_decide_eq_true hd
   simp only[g5,Tryz.results90,ruW,ruU,Nat.reduceLT,Nat.reduceEqDiff]
   rw[find_at hym this hall]
   exact Fin.pureE rfl rfl
  |false =>
   have hne:=of_decide_eq_false hd
   simp only[g5,hw,ruW,ruU,Nat.reduceLT,Nat.reduceEqDiff]
   refine loopC_next ⟨j+1,by omega,rfl,by omega,fun k hk z hz=>?_,?_,?_,?_⟩
   ·by_cases h:k=j
    ·subst h
     rw[hym]at hz
     cases hz
     exact hne
    ·exact hall k (by omega) z hz
   all_goals simp only[g0,g1,ruU,Nat.reduceEqDiff]
theorem goes64_c (H:AHeap) (n:Nat) (least most depth:Int) (u p lv hv fv:Value) (a h bd t:Int) (ls:List Iv) (hk:bk H n=some ⟨68,false,wkC least most depth u p lv hv a h bd fv⟩) (hn:n<H.next) (hi:InsRd H lv ls) (hl:ls.length<=1000000) (hok:H.base<=H.next) :
  CallA Tryz.prog 64 [.pointer (some ⟨n,0,none⟩),.int .i64 t] H (fun out X=>out=.ok (.bool (decide (0<=findR (ls.map (·.1)) t)))/\Mod [n] H X/\bk X n=some ⟨68,false,wkC least most depth u p lv hv (findR (ls.map (·.1)) t) h bd fv⟩):=by
 obtain⟨x,hx⟩:=Go.Ax.exq H.next
 have hn':=hn
 rw[hx]at hn'
 refine callE_fn mixed Tryz.func64 rfl Tryz.ntmps64 (zB3 rfl) ?_
 have hidx:=fun G:AHeap=>index90_c G n least most depth u p lv hv fv a h bd t ls
 obtain⟨F,hF⟩:=Go.Ax.exq (findR (ls.map (·.1)) t)
 obtain⟨d,hd⟩:=Go.Ax.exq (decide (0<=F))
 rw[hF]at hidx ⊢
 rw[hd]
 have hk0:=hk
 unfold wkC at hk
 simp only[ruW,xF,ruU,entryE,Nat.reduceLT,Nat.reduceAdd,Nat.reduceEqDiff]
 refine (hidx (ext H []) hk0 hn hi hl).to ?_
 simp only[hx,hk,hn',hd,qk_old,ruW,putL,Nat.reduceLeDiff,xF,ruU,Nat.reduceLT,Nat.reduceAdd,Nat.reduceEqDiff]
 simp only[Tryz.results64,ruW,ruU,Nat.reduceLT]
 rw[ext_nil]
 refine⟨trivial,Mod.uw (by simp),?_⟩
 rw[bk_uw_eq,hk]
 rfl
set_option maxRecDepth 100000
theorem opsK_more {c:UInt8} {ks:List UInt8} {args:List Int} {i:Nat} (h1:i<ks.length) (h2:i<args.length):opsK c (ks.drop i) (args.drop i)=(if ks.getD i 0=c then [args.getD i 0] else [])++opsK c (ks.drop (i+1)) (args.drop (i+1)):=by
 rw[List.drop_eq_getElem_cons h1,List.drop_eq_getElem_cons h2,opsK_cons,zA9,zA9,zA5 h1,zA5 h2]
 rfl
theorem opsK_len (c:UInt8):∀ (ks:List UInt8) (args:List Int),(opsK c ks args).length<=args.length
 |[],args=>by simp[opsK]
 |_::_,[]=>by simp[opsK]
 |k::ks,a::args=>by
  have:=opsK_len c ks args
  rw[opsK_cons,zC6,zA8]
  split<;>simp<;>omega
theorem operands96_c (H:AHeap) (pos:Int) (op:Nat) (av:Value) (args:List Int) (c:UInt8) (hop:op<28) (ha:RdAt H 1 av (iv args) args.length) (hal:args.length<=1000000) (hk:args.length=(kindsR op args).length) (hcn:cntR op args<=1000000) (hsv:scb H.next av=true) (hok:H.base<=H.next) :
  CallA Tryz.prog 96 [.agg ⟨[.int .i64 pos,.int .i64 (op:Int),av]⟩,.int .u8 (c.toNat:Int)] H (fun out X=>∃ w,out=.ok w/\ArgA X w (opsK c (kindsR op args) args)/\Mod [] H X/\∀ n∈idsV w,H.next<=n):=by
 obtain⟨b,hb⟩:=Go.Ax.exq H.next
 have hbase:H.base<=b:=hb▸hok
 obtain⟨a0,c0,e0⟩:=ha.sl
 refine callE_fn mixed Tryz.func96 rfl Tryz.ntmps96 (zB3 rfl) ?_
 rw[hb]
 have hsc0:=hsv
 rw[hb,e0]at hsc0
 obtain⟨f,ca,Fk,hkv,hkb,hkF,hkc⟩:=kinds_c (b+1) op hop
 obtain⟨nm,hnm⟩:∃ nm,(shV (b+1))[2*op]?=some nm:=⟨_,zA5 (by rw[sh_len]; omega)⟩
 have hix:=ix114 hop hnm hkv
 rw[e0]
 simp only[hb,hsc0,ruW,ruU,entryE,Nat.reduceLT,Nat.reduceAdd,Nat.reduceEqDiff]
 refine w_drawB [(3,0),(4,0),(7,0),(7,6),(7,2)] [] (by kernel_rfl) (by kernel_rfl) rfl fun ops anc hA hG=>?_
 simp only[all2_cons]at hA
 simp only[ruD]
 refine genV_ext (v:=.agg ⟨shV (b+1)⟩) (M:=shB (b+1)) [] rfl (by kernel_rfl) (by decide) (by simp) (fun G hG _=>?_) (by simp[Meets]) ?_
 ·have:=shapes_c G
  rw[hG,ext_next,hb]at this
  simp only[ruU]
  exact this
 generalize hX:ext (ext H _) _=X
 have mX:Mod [] H X:=by
  rw[<-hX]
  exact (Mod.ext (by rw[hb]; exact hbase)).trans (Mod.ext (by rw[ext_base,ext_next,hb]; omega))
 have nX:X.next=b+28:=by rw[<-hX,ext_next,ext_next,hb]; rfl
 have kX:bk X (b+0)=some ⟨59,false,[.int .i64 pos,.int .i64 (op:Int),.slice a0 args.length c0]⟩:=by
  rw[<-hX,bk_old (by rw[ext_next,hb]; simp),bk_at hb (by simp)]
  rfl
 have sX:ShAt X (b+1):=by
  have:=ShAt.new (H:=ext H [⟨59,false,[.int .i64 pos,.int .i64 (op:Int),.slice a0 args.length c0]⟩]) (L:=[])
  rw[ext_nil,ext_next,hb]at this
  rw[<-hX]
  exact this
 have haX:=ha.mod0 mX
 clear hX
 rw[show X=ext X [] from rfl,ext_next,hb,zC7]
 have hbx:b+0<b+28:=by omega
 have hmt:b+0<b+1:=by omega
 simp only[nX,kX,hbx,hmt,hix,hA,qk_old,ruD,ruW,xF,ruU,Nat.reduceLT,Nat.reduceAdd,Nat.reduceEqDiff]
 refine⟨.inr fun _ n hn=>.inl (by have:=ids_of_scb _ hsc0 n hn; omega),?_⟩
 have okX:=mX.ok (by rw[hb]; exact hbase)
 rw[e0]at haX
 obtain⟨FF,hFF⟩:=Go.Ax.exq (Fk++rdF (.slice a0 args.length c0) args.length)
 have hFn:∀ k∈FF,X.get k≠none:=fun k hk=>by
  rw[<-hFF]at hk
  rcases zB7.1 hk with hk|hk
  ·obtain⟨h1,h2⟩:=hkF k hk
   obtain⟨j,rfl⟩:∃ j,k=b+1+j:=⟨k-(b+1),by omega⟩
   have hj:j<(shB (b+1)).length:=by simp[shB]; omega
   exact bk_ne (sX j _ (zA5 hj)).1
  ·exact (haX.ne k hk).1
 refine genV_quietV (v:=.string ⟨(kindsR op args).toArray⟩) (f:=f) (ca:=ca) FF rfl rfl rfl hkb (by decide) hFn (fun G h1 h2=>?_) (by simp only[all2_cons,all2_nil,Meets,hA,true_or,and_true]) ?_
 ·simp only[ruU]
  refine hkc G (.slice a0 args.length c0) args (fun i b' h3 h4=>?_) (haX.of (zF1 h1.symm) fun k hk=>h2 k (hFF▸List.mem_append_right _ hk)) hcn
  obtain⟨q1,q2⟩:=sX i b' h3
  have hg:=h2 (b+1+i) (hFF▸List.mem_append_left _ h4)
  exact⟨(bk_get hg).trans q1,by show _<G.next; rw[h1]; exact q2⟩
 simp only[nX,ruD,ruW,ruU,Nat.reduceLT,Nat.reduceAdd]
 refine⟨fun _=>.inr fun n hn=>by simp[idsV]at hn,?_⟩
 obtain⟨ks,hks⟩:=Go.Ax.exq (kindsR op args)
 rw[hks]at hk ⊢
 simp only[bt_lenStr u9,bytes_size,ruW,ruU,Nat.reduceLT]
 refine w_env fun E hE=>?_
 have g1:E 1=.int .u8 (c.toNat:Int):=by rw[hE]; rfl
 have g2:E 2=.pointer (some ⟨b+0,0,none⟩):=by rw[hE]; rfl
 have g5:E 5=.slice none 0 0:=by rw[hE]; rfl
 have g6:E 6=.string (bs ks):=by rw[hE]; rfl
 have g17:E 17=.int .i64 (ks.length:Int):=by rw[hE]; rfl
 have g18:E 18=.int .i64 ((0:Nat):Int):=by rw[hE]; rfl
 clear hE
 refine w_loop (fun (z:Nat × List Int × Value) E' X'=>Mod [] X X'/\ArgA X' z.2.2 z.2.1/\(∀ n∈idsV z.2.2,b+28<=n)/\z.2.1++opsK c (ks.drop z.1) (args.drop z.1)=opsK c ks args/\z.1<=ks.length/\z.2.1.length<=z.1/\E' 1=.int .u8 (c.toNat:Int)/\E' 2=.pointer (some ⟨b+0,0,none⟩)/\E' 5=z.2.2/\E' 6=.string (bs ks)/\E' 17=.int .i64 (ks.length:Int)/\E' 18=.int .i64 (z.1:Int)) (fun z=>ks.length-z.1) (0,[],.slice none 0 0)
  ⟨Mod.refl,VsAt.nil,fun n hn=>by simp[idsV]at hn,rfl,zC0 _,zC0 _,g1,g2,g5,g6,g17,g18⟩ ?_
 clear g1 g2 g5 g6 g17 g18 E
 rintro⟨j,out,w⟩ E Y ⟨mY,hw,hwi,hev,hj,hol,g1,g2,g5,g6,g17,g18⟩
 simp only at hw hwi hev hj hol g5 g18
 obtain⟨y,hy⟩:=Go.Ax.exq Y.next
 have okY:=mY.ok okX
 have hyb:Y.base<=y:=hy▸okY
 have ly:b+28<=y:=by have:=mY.next; omega
 have hby:b+0<y:=by omega
 have kY:=(mY.bk (by omega) (by simp)).trans kX
 obtain⟨wa,ew⟩:=VsAt.len hw
 have mHY:=mX.trans mY
 rw[show Y=ext Y [] from rfl]
 by_cases hje:j=ks.length
 ·have hd:decide ((j:Int)<(ks.length:Int))=false:=decide_eq_false (by omega)
  rw[List.drop_of_length_le (by omega),opsK_nil,zE2]at hev
  rw[ew]at g5
  simp only[g5,g17,g18,hd,Tryz.results96,ruW,ruU,Nat.reduceLT,Nat.reduceEqDiff]
  refine⟨w,by rw[ew],by rw[<-hev]; exact hw,mHY,fun q hq=>by have:=hwi q hq; omega⟩
 ·have hjl:j<ks.length:=by omega
  have hd:decide ((j:Int)<(ks.length:Int))=true:=decide_eq_true (by omega)
  have hja:j<args.length:=by omega
  rw[opsK_more hjl hja]at hev
  have hwj:IntKind.i64.wrap ((j:Int)+1)=((j+1:Nat):Int):=wrap_succ (by omega)
  have hib:=ix_bs (l:=ks) hjl
  obtain⟨dk,hdk⟩:∃ d,decide (((ks.getD j 0).toNat:Int)=(c.toNat:Int))=d:=⟨_,rfl⟩
  cases dk with
  |false =>
   have hne:=of_decide_eq_false hdk
   rw[if_neg (fun e=>hne (by rw[e]))]at hev
   simp only[g1,g6,g17,g18,hd,hib,hdk,hwj,ruW,ruU,Nat.reduceLT,Nat.reduceEqDiff]
   refine loopC_next ⟨(j+1,out,w),by simp only; omega,mY,hw,hwi,hev,by simp only; omega,by simp only; omega,?_,?_,?_,?_,?_,?_⟩
   all_goals simp only[g1,g2,g5,g6,g17,ruU,Nat.reduceEqDiff]
  |true =>
   have he:ks.getD j 0=c:=UInt8.toNat_inj.1 (by have:=of_decide_eq_true hdk; omega)
   rw[if_pos he]at hev
   obtain⟨n,off,s,cc,e,o,M,e2,n1,r1,m1⟩:=(haX.mod0 mY).one hja
   simp only[Value.slice.injEq]at e2
   obtain⟨ea,-,ec⟩:=e2
   rw[ea]at kY
   rw[iv_get,zA5 hja,zA6]at m1
   have hg:args.getD j 0=args[j]:=by rw[zA9,zA5 hja]; rfl
   rw[hg]at hev
   have i1:=ia_of (P:=Tryz.prog) (k:=.i64) (i:=j) (n:=n) (off:=off) (len:=args.length) (cap:=c0) (s:=s) u35 s3 hja
   rw[zD0]at i1
   rw[hy]at n1
   obtain⟨xa,hxa⟩:=Go.Ax.exq (args[j])
   rw[hxa]at m1 hev
   obtain⟨G,k1,vG,mG,nG⟩:=int_app hw hy okY (by omega) xa
   have hwx:∀ q∈idsV w,b+28<=q/\q<y:=fun q hq=>⟨hwi q hq,hy▸(hw.ne q hq).2⟩
   have mXG:Mod [] X G:=mY.step mG okX fun q hq=>.inr (by have:=hwx q hq; omega)
   simp only[g1,g2,g5,g6,g17,g18,hy,hby,kY,hd,hib,hdk,hwj,i1,n1,r1,m1,k1,qk_old,ruW,xF,ruU,Nat.reduceLT,Nat.reduceAdd,Nat.reduceEqDiff]
   refine loopC_next ⟨(j+1,out++[xa],.slice (some ⟨y+1,0,none⟩) (out.length+1) (out.length+1)),by simp only; omega,mXG,vG,fun q hq=>by simp only[idsV,zA4]at hq; omega,by simp only; rw[List.append_assoc]; exact hev,by simp only; omega,by simp only[zC6,zC7]; omega,?_,?_,?_,?_,?_,?_⟩
   all_goals simp only[g1,g2,g6,g17,ruU,Nat.reduceEqDiff]
set_option maxRecDepth 100000
theorem nan148_c (H:AHeap) (x:Int):Pure 148 [.int .i64 x] H (.bool false):=by
 refine callS_fn mixed Tryz.func148 rfl Tryz.ntmps148 (zB3 rfl) fun wf hsc=>?_
 have hz0:∀ i:Decidable (¬True),@decide (¬True) i=false:=fun i=>by simp
 simp only[hz0,Tryz.results148,ruW,ruU,entryE,Nat.reduceLT,Nat.reduceEqDiff]
 exact Fin.pureE rfl rfl
theorem nan120_c (H:AHeap) (x:Int):Pure 120 [.int .i64 x] H (.bool false):=by
 refine callS_fn mixed Tryz.func120 rfl Tryz.ntmps120 (zB3 rfl) fun wf hsc=>?_
 have hz0:∀ i:Decidable (¬True),@decide (¬True) i=false:=fun i=>by simp
 simp only[hz0,Tryz.results120,ruW,ruU,entryE,Nat.reduceLT,Nat.reduceEqDiff]
 exact Fin.pureE rfl rfl
theorem less119_c (H:AHeap) (x y:Int):Pure 119 [.int .i64 x,.int .i64 y] H (.bool (decide (x<y))):=by
 refine callS_fn mixed Tryz.func119 rfl Tryz.ntmps119 (zB3 rfl) fun wf hsc=>?_
 simp only[ruW,xF,ruU,entryE,Nat.reduceLT,Nat.reduceAdd,Nat.reduceEqDiff]
 refine (nan148_c (ext H _) x).to ?_
 obtain⟨d,hd⟩:=Go.Ax.exq (decide (x<y))
 rw[hd]
 simp only[hd,Tryz.results119,ruW,ruU,Nat.reduceLT,Nat.reduceEqDiff]
 exact Fin.pureE rfl rfl
def idxR (p:Int->Bool) (l:List Int):Int:=match l.findIdx? p with
 |some i=>(i:Int)
 |none=>-1
theorem idx_at {p:Int->Bool} {l:List Int} {i:Nat} (h:i<l.length) (hx:p l[i]=true) (hb:∀ k (hk:k<i),p (l[k]'(by omega))=false):idxR p l=(i:Int):=by
 have:l.findIdx? p=some i:=by
  rw[List.findIdx?_eq_some_iff_getElem]
  exact⟨h,hx,fun j hj=>by rw[hb j hj]; simp⟩
 rw[idxR,this]
theorem idx_not {p:Int->Bool} {l:List Int} (hb:∀ k (hk:k<l.length),p l[k]=false):idxR p l=-1:=by
 have:l.findIdx? p=none:=by
  rw[List.findIdx?_eq_none_iff]
  intro x hx
  obtain⟨k,hk,e⟩:=List.mem_iff_getElem.1 hx
  rw[<-e]
  exact hb k hk
 rw[idxR,this]
theorem idx_any (p:Int->Bool) (l:List Int):decide (0<=idxR p l)=l.any p:=by
 unfold idxR
 cases h:l.findIdx? p with
 |none =>
  rw[List.findIdx?_eq_none_iff]at h
  have:l.any p=false:=by
   rw[List.any_eq_false]
   exact fun x hx=>by rw[h x hx]; simp
  rw[this]; rfl
 |some i =>
  obtain⟨h1,h2,_⟩:=List.findIdx?_eq_some_iff_getElem.1 h
  rw[List.any_eq_true.2 ⟨_,zF4 h1,h2⟩]
  exact decide_eq_true (by simp only; omega)
theorem index151_c (H:AHeap) (v:Value) (l:List Int) (x:Int) (hv:RdAt H 1 v (iv l) l.length) (hl:l.length<=1000000):Pure 151 [v,.int .i64 x] H (.int .i64 (idxR (fun y=>decide (y=x)) l)):=by
 obtain⟨b,hb⟩:=Go.Ax.exq H.next
 obtain⟨a0,c0,e0⟩:=hv.sl
 refine callS_fn mixed Tryz.func151 rfl Tryz.ntmps151 (zB3 rfl) fun wf hsc=>?_
 rw[e0]
 simp only[ruW,xF,ruU,entryE,Nat.reduceLT,Nat.reduceAdd,Nat.reduceEqDiff]
 refine w_env fun E hE=>?_
 have g0:E 0=v:=by rw[hE,e0]; simp only[ruU,Nat.reduceEqDiff]
 have g1:E 1=.int .i64 x:=by rw[hE]; rfl
 have g7:E 7=.int .i64 (l.length:Int):=by rw[hE]; rfl
 have g8:E 8=.int .i64 ((0:Nat):Int):=by rw[hE]; rfl
 clear hE
 refine w_loop (fun (j:Nat) E' H'=>H'=ext H []/\j<=l.length/\(∀ k (hk:k<l.length),k<j->decide (l[k]=x)=false)/\E' 0=v/\E' 1=.int .i64 x/\E' 7=.int .i64 (l.length:Int)/\E' 8=.int .i64 (j:Int)) (fun j=>l.length-j) 0 ⟨rfl,zC0 _,fun k _ hk=>absurd hk (by omega),g0,g1,g7,g8⟩ ?_
 clear g0 g1 g7 g8 E
 rintro j E H' ⟨hH,hj,hall,g0,g1,g7,g8⟩
 rw[hH]
 by_cases hje:j=l.length
 ·have hd:decide ((j:Int)<(l.length:Int))=false:=decide_eq_false (by omega)
  simp only[g7,g8,hd,Tryz.results151,ruW,ruU,Nat.reduceLT]
  rw[idx_not fun k hk=>hall k hk (by omega)]
  exact Fin.pureE rfl rfl
 ·have hjl:j<l.length:=by omega
  have hd:decide ((j:Int)<(l.length:Int))=true:=decide_eq_true (by omega)
  obtain⟨n,off,s,c,e,o,M,e1,n1,r1,m1⟩:=hv.one hjl
  rw[e1]at g0
  have i1:=ia_of (P:=Tryz.prog) (k:=.i64) (i:=j) (n:=n) (off:=off) (len:=l.length) (cap:=c) (s:=s) u35 s3 hjl
  rw[zD0]at i1
  rw[iv_get,zA5 hjl,zA6]at m1
  rw[hb]at n1
  have hwj:IntKind.i64.wrap ((j:Int)+1)=((j+1:Nat):Int):=wrap_succ (by omega)
  obtain⟨xa,hxa⟩:=Go.Ax.exq (l[j])
  rw[hxa]at m1
  obtain⟨d,hdd⟩:=Go.Ax.exq (decide (x=xa))
  simp only[g0,g1,g7,g8,hb,hd,i1,n1,r1,m1,hdd,qk_old,ruW,xF,ruU,Nat.reduceLT,Nat.reduceEqDiff]
  cases d with
  |true =>
   have:=of_decide_eq_true hdd
   simp only[Tryz.results151,ruW,ruU,Nat.reduceLT,Nat.reduceEqDiff]
   rw[idx_at hjl (by rw[hxa]; exact decide_eq_true this.symm) fun k hk=>hall k (by omega) hk]
   exact Fin.pureE rfl rfl
  |false =>
   have hne:=of_decide_eq_false hdd
   simp only[g8,hwj,ruW,ruU,Nat.reduceLT,Nat.reduceEqDiff]
   refine loopC_next ⟨j+1,by omega,rfl,by omega,fun k hk hkj=>?_,?_,?_,?_,?_⟩
   ·by_cases hkk:k=j
    ·subst hkk; rw[hxa]; exact decide_eq_false fun e=>hne e.symm
    ·exact hall k hk (by omega)
   ·rw[e1]; simp only[g0,ruU,Nat.reduceEqDiff]
   ·exact g1
   ·exact g7
   ·rfl
theorem contains128_c (H:AHeap) (v:Value) (l:List Int) (x:Int) (hv:RdAt H 1 v (iv l) l.length) (hl:l.length<=1000000):Pure 128 [v,.int .i64 x] H (.bool (l.any fun y=>decide (y=x))):=by
 obtain⟨a0,c0,e0⟩:=hv.sl
 have hc:=index151_c (ext H []) v l x hv hl
 refine callS_fn mixed Tryz.func128 rfl Tryz.ntmps128 (zB3 rfl) fun wf hsc=>?_
 rw[e0]at hc ⊢
 simp only[ruW,xF,ruU,entryE,Nat.reduceLT,Nat.reduceAdd,Nat.reduceEqDiff]
 refine hc.to ?_
 rw[<-idx_any]
 simp only[Tryz.results128,ruW,ruU,Nat.reduceLT]
 exact Fin.pureE rfl rfl
theorem high126_c (H:AHeap) (x h:Int) (m:Nat) (hm:bk H m=some ⟨3,false,[.int .i64 h]⟩) (hl:m<H.next):Pure 126 [.int .i64 x,.pointer (some ⟨m,0,none⟩)] H (.bool (decide (h<=x))):=by
 obtain⟨b,hb⟩:=Go.Ax.exq H.next
 rw[hb]at hl
 refine callS_fn mixed Tryz.func126 rfl Tryz.ntmps126 (zB3 rfl) fun wf hsc=>?_
 simp only[hb,hm,hl,qk_old,Tryz.results126,ruW,xF,ruU,entryE,Nat.reduceLT,Nat.reduceAdd,Nat.reduceEqDiff]
 exact Fin.pureE rfl rfl
theorem indexF150_c (H:AHeap) (v:Value) (l:List Int) (h:Int) (m:Nat) (hv:RdAt H 1 v (iv l) l.length) (hl:l.length<=1000000) (hm:bk H m=some ⟨3,false,[.int .i64 h]⟩) (hlt:m<H.next):Pure 150 [v,.func (.func 126) ⟨[]⟩ ⟨[.pointer (some ⟨m,0,none⟩)]⟩] H (.int .i64 (idxR (fun y=>decide (h<=y)) l)):=by
 obtain⟨b,hb⟩:=Go.Ax.exq H.next
 obtain⟨a0,c0,e0⟩:=hv.sl
 refine callS_fn mixed Tryz.func150 rfl Tryz.ntmps150 (zB3 rfl) fun wf hsc=>?_
 rw[e0]
 simp only[ruW,xF,ruU,entryE,Nat.reduceLT,Nat.reduceAdd,Nat.reduceEqDiff]
 refine w_env fun E hE=>?_
 have g0:E 0=v:=by rw[hE,e0]; simp only[ruU,Nat.reduceEqDiff]
 have g1:E 1=.func (.func 126) ⟨[]⟩ ⟨[.pointer (some ⟨m,0,none⟩)]⟩:=by rw[hE]; rfl
 have g7:E 7=.int .i64 (l.length:Int):=by rw[hE]; rfl
 have g8:E 8=.int .i64 ((0:Nat):Int):=by rw[hE]; rfl
 clear hE
 refine w_loop (fun (j:Nat) E' H'=>H'=ext H []/\j<=l.length/\(∀ k (hk:k<l.length),k<j->decide (h<=l[k])=false)/\E' 0=v/\E' 1=.func (.func 126) ⟨[]⟩ ⟨[.pointer (some ⟨m,0,none⟩)]⟩/\E' 7=.int .i64 (l.length:Int)/\E' 8=.int .i64 (j:Int)) (fun j=>l.length-j) 0 ⟨rfl,zC0 _,fun k _ hk=>absurd hk (by omega),g0,g1,g7,g8⟩ ?_
 clear g0 g1 g7 g8 E
 rintro j E H' ⟨hH,hj,hall,g0,g1,g7,g8⟩
 rw[hH]
 by_cases hje:j=l.length
 ·have hd:decide ((j:Int)<(l.length:Int))=false:=decide_eq_false (by omega)
  simp only[g7,g8,hd,Tryz.results150,ruW,ruU,Nat.reduceLT]
  rw[idx_not fun k hk=>hall k hk (by omega)]
  exact Fin.pureE rfl rfl
 ·have hjl:j<l.length:=by omega
  have hd:decide ((j:Int)<(l.length:Int))=true:=decide_eq_true (by omega)
  obtain⟨n,off,s,c,e,o,M,e1,n1,r1,m1⟩:=hv.one hjl
  rw[e1]at g0
  have i1:=ia_of (P:=Tryz.prog) (k:=.i64) (i:=j) (n:=n) (off:=off) (len:=l.length) (cap:=c) (s:=s) u35 s3 hjl
  rw[zD0]at i1
  rw[iv_get,zA5 hjl,zA6]at m1
  rw[hb]at n1
  have hwj:IntKind.i64.wrap ((j:Int)+1)=((j+1:Nat):Int):=wrap_succ (by omega)
  obtain⟨xa,hxa⟩:=Go.Ax.exq (l[j])
  rw[hxa]at m1
  obtain⟨d,hdd⟩:=Go.Ax.exq (decide (h<=xa))
  simp only[g0,g1,g7,g8,hb,hd,i1,n1,r1,m1,qk_old,ruW,xF,ruU,Nat.reduceLT,Nat.reduceEqDiff]
  refine w_callV (f:=126) (ca:=[.pointer (some ⟨m,0,none⟩)]) rfl rfl rfl (by kernel_rfl) ?_
  refine (high126_c (ext H []) xa h m hm hlt).to ?_
  rw[hdd]
  cases d with
  |true =>
   simp only[Tryz.results150,ruW,ruU,Nat.reduceLT,Nat.reduceEqDiff]
   rw[idx_at hjl (by rw[hxa]; exact hdd) fun k hk=>hall k (by omega) hk]
   exact Fin.pureE rfl rfl
  |false =>
   simp only[g8,hwj,ruW,ruU,Nat.reduceLT,Nat.reduceEqDiff]
   refine loopC_next ⟨j+1,by omega,rfl,by omega,fun k hk hkj=>?_,?_,?_,?_,?_⟩
   ·by_cases hkk:k=j
    ·subst hkk; rw[hxa]; exact hdd
    ·exact hall k hk (by omega)
   ·rw[e1]; simp only[g0,ruU,Nat.reduceEqDiff]
   ·exact g1
   ·exact g7
   ·rfl
theorem containsF125_c (H:AHeap) (v:Value) (l:List Int) (h:Int) (m:Nat) (hv:RdAt H 1 v (iv l) l.length) (hl:l.length<=1000000) (hm:bk H m=some ⟨3,false,[.int .i64 h]⟩) (hlt:m<H.next):Pure 125 [v,.func (.func 126) ⟨[]⟩ ⟨[.pointer (some ⟨m,0,none⟩)]⟩] H (.bool (l.any fun y=>decide (h<=y))):=by
 obtain⟨a0,c0,e0⟩:=hv.sl
 have hc:=indexF150_c (ext H []) v l h m hv hl hm hlt
 refine callS_fn mixed Tryz.func125 rfl Tryz.ntmps125 (zB3 rfl) fun wf hsc=>?_
 rw[e0]at hc ⊢
 simp only[ruW,xF,ruU,entryE,Nat.reduceLT,Nat.reduceAdd,Nat.reduceEqDiff]
 refine hc.to ?_
 rw[<-idx_any]
 simp only[Tryz.results125,ruW,ruU,Nat.reduceLT]
 exact Fin.pureE rfl rfl
theorem missing100_c (H:AHeap) (pos:Int) (op:Nat) (av:Value) (args:List Int) (h:Int) (hop:op<28) (ha:RdAt H 1 av (iv args) args.length) (hal:args.length<=1000000) (hk:args.length=(kindsR op args).length) (hcn:cntR op args<=1000000) (h0:op=4\/op=9->0<args.length/\0<=args.getD 0 0/\args.getD 0 0<=65535) (hh:-1000000000<=h/\h<=1000000000) (hsv:scb H.next av=true) (hok:H.base<=H.next) :
  CallA Tryz.prog 100 [.agg ⟨[.int .i64 pos,.int .i64 (op:Int),av]⟩,.int .i64 h] H (fun out X=>out=.ok (.bool (missC op args h))/\Mod [] H X):=by
 obtain⟨b,hb⟩:=Go.Ax.exq H.next
 obtain⟨a0,c0,e0⟩:=ha.sl
 refine callE_fn mixed Tryz.func100 rfl Tryz.ntmps100 (zB3 rfl) ?_
 have hsc0:=hsv
 rw[hb,e0]at hsc0
 rw[e0]
 simp only[hb,hsc0,ruW,Nat.reduceLeDiff,xF,ruU,entryE,Nat.reduceLT,Nat.reduceAdd,Nat.reduceEqDiff]
 generalize hX:ext H _=X
 have mX:Mod [] H X:=hX▸Mod.ext hok
 have nX:X.next=b+2:=by rw[<-hX,ext_next,hb]; rfl
 have k0:bk X (b+0)=some ⟨59,false,[.int .i64 pos,.int .i64 (op:Int),.slice a0 args.length c0]⟩:=by rw[<-hX,bk_at hb (by simp)]; rfl
 have k1:bk X (b+1)=some ⟨3,false,[.int .i64 h]⟩:=by rw[<-hX,bk_at hb (by simp)]; rfl
 clear hX
 have okX:=mX.ok hok
 obtain⟨x,hx⟩:=Go.Ax.exq X.next
 have j0:b+0<x:=by omega
 have j1:b+1<x:=by omega
 have haX:=ha.mod0 mX
 rw[e0]at haX
 rw[show X=ext X [] from rfl]
 refine (eff124_c (ext X []) pos op (.slice a0 args.length c0) args hop haX h0).to ?_
 obtain⟨pq,hpq⟩:=Go.Ax.exq (effR op args)
 rw[hpq]
 have hw:IntKind.i64.wrap (h-1)=h-1:=wrap_sm (by omega) (by omega)
 have hsx:scb X.next (.slice a0 args.length c0)=true:=scb_mono (by omega) _ hsc0
 by_cases h2:op=2\/op=23
 ·have hm:missC op args h=(decide (h-1<0)||(opsK 105 (kindsR op args) args).any fun a=>decide (h-1<=a)):=by rw[missC,if_pos h2]
  rw[hm]
  have hd2:∃ d,decide ((op:Int)=2)=d:=⟨_,rfl⟩
  obtain⟨d2,hd2⟩:=hd2
  have hd23:d2=false->decide ((op:Int)=23)=true:=fun hf=>by
   subst hf
   have:=of_decide_eq_false hd2
   exact decide_eq_true (by omega)
  obtain⟨d,hd⟩:=Go.Ax.exq (decide (h-1<0))
  rw[hd]
  have kc:(match d2 with
    |true=>True
    |false=>decide ((op:Int)=23)=true):=by cases d2; exact hd23 rfl; trivial
  have tail:∀ U,uw X (b+1) 0 [.int .i64 (h-1)]=U->Mod [] H U/\U.next=x/\bk U (b+0)=some ⟨59,false,[.int .i64 pos,.int .i64 (op:Int),.slice a0 args.length c0]⟩/\bk U (b+1)=some ⟨3,false,[.int .i64 (h-1)]⟩/\U.base<=U.next/\RdAt U 1 (.slice a0 args.length c0) (iv args) args.length:=fun U hU=>by
   have mU:Mod [b+1] X U:=hU▸Mod.uw (by simp)
   have nU:U.next=x:=by rw[<-hU,uw_next,hx]
   refine⟨mX.step mU hok fun n hn=>.inr (by simp only[zA4]at hn; omega),nU,(mU.bk (by omega) (by simp)).trans k0,by rw[<-hU,bk_uw_eq,k1]; rfl,mU.ok okX,?_⟩
   refine haX.modW mU fun n hn=>?_
   have:=ids_of_scb _ hsc0 n (rdF_ids hn)
   simp only[zA4]
   omega
  obtain⟨U,hU⟩:=Go.Ax.exq (uw X (b+1) 0 [.int .i64 (h-1)])
  obtain⟨mU,nU,u0,u1,okU,haU⟩:=tail U hU
  cases d2
  case' true=>simp only[hx,j0,j1,k0,k1,hd2,hw,qk_old,ruW,putL,Nat.reduceLeDiff,xF,ruU,Nat.reduceLT,Nat.reduceAdd,Nat.reduceEqDiff]
  case' false=>simp only[hx,j0,j1,k0,k1,hd2,hd23 rfl,hw,qk_old,ruW,putL,Nat.reduceLeDiff,xF,ruU,Nat.reduceLT,Nat.reduceAdd,Nat.reduceEqDiff]
  all_goals
   rw[ext_nil,hU,show U=ext U [] from rfl]
   cases d with
   |true =>
    simp only[hd,Tryz.results100,ruW,ruU,Nat.reduceLT,Nat.reduceEqDiff]
    exact⟨by rw[Bool.true_or],mU⟩
   |false =>
    simp only[nU,j0,u0,hd,qk_old,ruW,Nat.reduceLeDiff,xF,ruU,Nat.reduceLT,Nat.reduceAdd,Nat.reduceEqDiff]
    rw[ext_nil]
    refine (operands96_c U pos op (.slice a0 args.length c0) args 105 hop haU hal hk hcn (by rw[nU]; exact scb_mono (by omega) _ hsc0) okU).mono ?_
    rintro _ Y ⟨w,rfl,vw,mY,hwlo⟩
    obtain⟨y,hy⟩:=Go.Ax.exq Y.next
    have ly:x<=y:=by have:=mY.next; omega
    have k1Y:=(mY.bk (by omega) (by simp)).trans u1
    have j1y:b+1<y:=by omega
    obtain⟨wa,ew⟩:=VsAt.len vw
    have hc:=containsF125_c (ext Y []) w (opsK 105 (kindsR op args) args) (h-1) (b+1) vw.rd (zC2 (opsK_len _ _ _) hal) k1Y (by rw[ext_nil,hy]; exact j1y)
    rw[ew]at hc ⊢
    rw[show Y=ext Y [] from rfl]
    simp only[w_func,ruW,xF,ruU,Nat.reduceLT,Nat.reduceEqDiff]
    refine hc.to ?_
    simp only[Tryz.results100,Bool.false_or,ruW,ruU,Nat.reduceLT,Nat.reduceEqDiff]
    exact⟨trivial,mU.trans mY⟩
 ·have hm:missC op args h=(decide (h<pq.1)||(opsK 105 (kindsR op args) args).any fun a=>decide (h<=a)):=by rw[missC,if_neg h2,hpq]
  rw[hm]
  have hne2:decide ((op:Int)=2)=false:=decide_eq_false (by omega)
  have hne23:decide ((op:Int)=23)=false:=decide_eq_false (by omega)
  obtain⟨d,hd⟩:=Go.Ax.exq (decide (h<pq.1))
  rw[hd]
  simp only[hx,j0,j1,k0,k1,hne2,hne23,hd,qk_old,ruW,xF,ruU,Nat.reduceLT,Nat.reduceAdd,Nat.reduceEqDiff]
  cases d with
  |true =>
   simp only[Tryz.results100,ruW,ruU,Nat.reduceLT,Nat.reduceEqDiff]
   exact⟨by rw[Bool.true_or],mX⟩
  |false =>
   simp only[hx,j0,k0,qk_old,ruW,Nat.reduceLeDiff,xF,ruU,Nat.reduceLT,Nat.reduceAdd,Nat.reduceEqDiff]
   rw[ext_nil]
   refine (operands96_c X pos op (.slice a0 args.length c0) args 105 hop haX hal hk hcn hsx okX).mono ?_
   rintro _ Y ⟨w,rfl,vw,mY,hwlo⟩
   obtain⟨y,hy⟩:=Go.Ax.exq Y.next
   have ly:x<=y:=by have:=mY.next; omega
   have k1Y:=(mY.bk (by omega) (by simp)).trans k1
   have j1y:b+1<y:=by omega
   obtain⟨wa,ew⟩:=VsAt.len vw
   have hc:=containsF125_c (ext Y []) w (opsK 105 (kindsR op args) args) h (b+1) vw.rd (zC2 (opsK_len _ _ _) hal) k1Y (by rw[ext_nil,hy]; exact j1y)
   rw[ew]at hc ⊢
   rw[show Y=ext Y [] from rfl]
   simp only[w_func,ruW,xF,ruU,Nat.reduceLT,Nat.reduceEqDiff]
   refine hc.to ?_
   simp only[Tryz.results100,Bool.false_or,ruW,ruU,Nat.reduceLT,Nat.reduceEqDiff]
   exact⟨trivial,mX.trans mY⟩
set_option maxRecDepth 100000
def stC (s:St) (fv:Value):Value:=.agg ⟨[.int .i64 s.h,.int .i64 s.b,fv]⟩
theorem sc_stC {N:Nat} {s:St} {x:Value} (h:scb N (stC s x)=true):scb N x=true:=by
 have h':(true&&(true&&(scb N x&&true)))=true:=h
 simpa using h'
theorem u91:Tryz.prog.underlying 91=some (.slice 176):=by kernel_rfl
theorem s176:szOf Tryz.prog 176=some 3:=by kernel_rfl
theorem ag176:aggT Tryz.prog 176=some true:=by kernel_rfl
theorem fl176:flat Tryz.prog 10000 176=some [3,3,3]:=by kernel_rfl
theorem gd176:Tryz.prog.eqGuardType Tryz.prog.depth 176=false:=by kernel_rfl
theorem fr_oneC {H:AHeap} {v:Value} {fs:List Fr} (h:RdAt H 3 v (frC fs) fs.length) {i:Nat} {f:Fr} (hi:fs[i]?=some f):∃ n off s c e o M,v=.slice (some ⟨n,off,s⟩) fs.length c/\n<H.next/\rk H n=some ⟨e,o,M⟩/\aIndexAddr Tryz.prog 91 v (.int .i64 (i:Int))=some (.pointer (some ⟨n,off+i*3,none⟩))/\ldB Tryz.prog 176 (off+i*3) (some ⟨e,o,M⟩)=some (.agg ⟨frV f⟩):=by
 have hl:=(zE6.1 hi).1
 obtain⟨n,off,s,c,e,o,M,rfl,h2,h3,h4,h5⟩:=h.at_ hl
 rw[frC_at hi]at h5
 refine⟨n,off,s,c,e,o,M,rfl,h2,h3,ia_of u91 s176 hl,?_⟩
 rw[ld_agg ag176,s176,zA3,if_pos (by omega),h5]
theorem top127_c (H:AHeap) (s:St) (fv:Value) (hf:RdAt H 3 fv (frC s.fs) s.fs.length) (hl:s.fs.length<=1000000):Pure 127 [stC s fv] H (.agg ⟨frV (topS s)⟩):=by
 obtain⟨b,hb⟩:=Go.Ax.exq H.next
 obtain⟨f0,fc,ef⟩:=hf.sl
 refine callS_fn mixed Tryz.func127 rfl Tryz.ntmps127 (zB3 rfl) fun wf hsc=>?_
 have hok:=wf.base
 have hbase:H.base<=b:=hb▸hok
 rw[scbL_iff]at hsc
 have hsc1:=sc_stC (hsc _ (zA4.2 rfl))
 rw[hb,ef]at hsc1
 obtain⟨dl,hdl⟩:∃ d,decide ((0:Int)<(s.fs.length:Int))=d:=⟨_,rfl⟩
 rw[ef]
 unfold stC
 cases dl with
 |false =>
  have hnil:s.fs=[]:=zE7 (by have:=of_decide_eq_false hdl; omega)
  have htt:topS s=⟨-1,0,0⟩:=by rw[topS,hnil]; rfl
  rw[htt]
  simp (maxDischargeDepth:=6) only[hb,hbase,hsc1,hdl,Tryz.results127,ruW,putL,Nat.reduceLeDiff,xF,ruU,entryE,Nat.reduceLT,Nat.reduceAdd,Nat.reduceEqDiff]
  exact Fin.pureE rfl rfl
 |true =>
  have hpos:0<s.fs.length:=by have:=of_decide_eq_true hdl; omega
  obtain⟨t,ht⟩:=Go.Ax.exq (topS s)
  have hlast:s.fs[s.fs.length-1]?=some t:=by
   rw[<-ht,topS,List.getLastD_eq_getLast?,List.getLast?_eq_getElem?,zA5 (by omega)]
   rfl
  rw[ht]
  obtain⟨n,off,sp,c,e,o,M,e1,n1,r1,ia,ld⟩:=fr_oneC hf hlast
  have e3:=ef.symm.trans e1
  simp only[Value.slice.injEq]at e3
  obtain⟨rfl,-,rfl⟩:=e3
  rw[e1]at ia
  rw[hb]at n1
  have hw:IntKind.i64.wrap ((s.fs.length:Int)-1)=((s.fs.length-1:Nat):Int):=(wrap_sm (by omega) (by omega)).trans (by omega)
  unfold frV at ld ⊢
  simp (maxDischargeDepth:=6) only[hb,hbase,hdl,hw,ia,n1,r1,ld,qk_old,Tryz.results127,ruW,putL,Nat.reduceLeDiff,xF,ruU,entryE,Nat.reduceLT,Nat.reduceAdd,Nat.reduceEqDiff]
  exact Fin.pureE rfl rfl
theorem dis101_c (H:AHeap) (pos:Int) (op:Nat) (av:Value) (args:List Int) (s:St) (fv:Value) (hop:op<28) (ha:RdAt H 1 av (iv args) args.length) (hal:args.length<=1000000) (h8:op=8->0<args.length/\0<=args.getD 0 0/\args.getD 0 0<=65535)
  (hf:RdAt H 3 fv (frC s.fs) s.fs.length) (hfl:s.fs.length<=1000000) (hb9:-1000000000<=s.b/\s.b<=1000000000) (hfh:∀ f∈s.fs,-1000000000<=f.height/\f.height<=1000000000) :
  Pure 101 [.agg ⟨[.int .i64 pos,.int .i64 (op:Int),av]⟩,stC s fv] H (.bool (disR op args s)):=by
 obtain⟨b,hb⟩:=Go.Ax.exq H.next
 obtain⟨a0,c0,e0⟩:=ha.sl
 obtain⟨f0,fc,ef⟩:=hf.sl
 refine callS_fn mixed Tryz.func101 rfl Tryz.ntmps101 (zB3 rfl) fun wf hsc=>?_
 have hok:=wf.base
 have hbase:H.base<=b:=hb▸hok
 rw[scbL_iff]at hsc
 have hsc0:=hsc _ (zB8 ..)
 have hsc1:=sc_stC (hsc _ (zB9 _ (zB8 ..)))
 rw[hb,e0]at hsc0
 rw[hb,ef]at hsc1
 replace hsc0:scb b (.slice a0 args.length c0)=true:=sc_agg3 hsc0
 have hsc2:=scb_mono (show b<=b+1 by omega) _ hsc1
 have hT:∀ i:Decidable True,@decide True i=true:=fun i=>by simp
 have hF:∀ i:Decidable False,@decide False i=false:=fun i=>by simp
 obtain⟨t,ht⟩:=Go.Ax.exq (topS s)
 rw[e0,ef]
 unfold stC
 simp only[hb,hsc0,hsc2,ruW,Nat.reduceLeDiff,xF,ruU,entryE,Nat.reduceLT,Nat.reduceAdd,Nat.reduceEqDiff]
 generalize hX:ext H _=X
 have mX:Mod [] H X:=hX▸Mod.ext hok
 have nX:X.next=b+2:=by rw[<-hX,ext_next,hb]; rfl
 have k0:bk X (b+0)=some ⟨59,false,[.int .i64 pos,.int .i64 (op:Int),.slice a0 args.length c0]⟩:=by rw[<-hX,bk_at hb (by simp)]; rfl
 have k1:bk X (b+1)=some ⟨93,false,[.int .i64 s.h,.int .i64 s.b,.slice f0 s.fs.length fc]⟩:=by rw[<-hX,bk_at hb (by simp)]; rfl
 clear hX
 have okX:=mX.ok hok
 obtain⟨x,hx⟩:=Go.Ax.exq X.next
 have xb:X.base<=x:=hx▸okX
 have haX:=ha.mod0 mX
 have htc:=top127_c (ext X []) s fv (hf.mod0 mX) hfl
 rw[e0]at haX
 rw[ht,ef]at htc
 unfold stC at htc
 have htb:-1000000000<=t.height/\t.height<=1000000000:=by
  by_cases hn:s.fs=[]
  ·have htt:t=⟨-1,0,0⟩:=by rw[<-ht,topS,hn]; rfl
   rw[htt]
   decide
  ·refine hfh t ?_
   rw[<-ht,topS,List.getLastD_eq_getLast?,List.getLast?_eq_some_getLast hn]
   exact List.getLast_mem hn
 have hwt:IntKind.i64.wrap (t.height+1)=t.height+1:=wrap_sm (by omega) (by omega)
 rw[show X=ext X [] from rfl]
 refine htc.to ?_
 have hdd:disR op args s=(let level:=decide (s.h=t.height+1)&&decide (s.b=t.bound)
  if op=8 then decide (s.b-args.getD 0 0<t.bound) else
  if op=19 then !level||!(decide (t.kind=16)||decide (t.kind=17)||decide (t.kind=18)) else
  if op=20 then !level||!decide (t.kind=19) else
  if op=15 then decide (s.fs≠[])||decide (0<s.b) else false):=by rw[disR,ht]
 rw[hdd]
 obtain⟨p4,q4⟩:∃ p,decide (s.h=t.height+1)=p:=⟨_,rfl⟩
 obtain⟨p5,q5⟩:∃ p,decide (s.b=t.bound)=p:=⟨_,rfl⟩
 rw[q4,q5]
 unfold frV
 obtain⟨lv,hlv⟩:=Go.Ax.exq ((p4&&p5))
 rw[hlv]
 generalize hc:Code.seq (Code.region 2 _ _) _=code
 simp only[hx,xb,ruW,putL,Nat.reduceLeDiff,xF,ruU,Nat.reduceLT,Nat.reduceAdd,Nat.reduceEqDiff]
 subst hc
 rw[w_seq]
 refine w_env fun E hE=>?_
 have g2:E 2=.pointer (some ⟨b+0,0,none⟩):=by rw[hE]; rfl
 have g3:E 3=.pointer (some ⟨b+1,0,none⟩):=by rw[hE]; rfl
 have g5:E 5=.pointer (some ⟨x+0,0,none⟩):=by rw[hE]; rfl
 clear hE
 generalize hY:ext X _=Y
 have mXY:Mod [] X Y:=hY▸Mod.ext okX
 have nY:Y.next=x+1:=by rw[<-hY,ext_next,hx]; rfl
 have k2:bk Y (x+0)=some ⟨176,false,[.int .i64 t.kind,.int .i64 t.height,.int .i64 t.bound]⟩:=by rw[<-hY,bk_at hx (by simp)]; rfl
 clear hY
 have okY:=mXY.ok okX
 have mY:=mX.trans mXY
 obtain⟨y,hy⟩:=Go.Ax.exq Y.next
 have hyx:x+1=y:=nY.symm.trans hy
 replace k0:=(mXY.bk (by omega) (by simp)).trans k0
 replace k1:=(mXY.bk (by omega) (by simp)).trans k1
 have haY:=haX.mod0 mXY
 replace l0:b+0<y:=by omega
 replace l1:b+1<y:=by omega
 have l2:x+0<y:=by omega
 rw[show Y=ext Y [] from rfl]
 refine w_meet (fun E' X'=>X'=ext Y []/\E' 2=.pointer (some ⟨b+0,0,none⟩)/\E' 3=.pointer (some ⟨b+1,0,none⟩)/\E' 5=.pointer (some ⟨x+0,0,none⟩)/\E' 6=.bool lv) ?_ ?_
 ·cases p4 with
  |false =>
   have:lv=false:=by rw[<-hlv]; rfl
   subst this
   simp only[g3,g5,hy,l1,l2,k1,k2,hwt,q4,qk_old,ruW,xF,ruU,Nat.reduceLT,Nat.reduceAdd,Nat.reduceEqDiff]
   refine joinR_normal ⟨rfl,?_,?_,?_,?_⟩
   all_goals simp only[g2,g3,g5,ruU,Nat.reduceEqDiff]
  |true =>
   have:lv=p5:=by rw[<-hlv]; rfl
   subst this
   simp only[g3,g5,hy,l1,l2,k1,k2,hwt,q4,q5,qk_old,ruW,xF,ruU,Nat.reduceLT,Nat.reduceAdd,Nat.reduceEqDiff]
   refine joinR_normal ⟨rfl,?_,?_,?_,?_⟩
   all_goals simp only[g2,g3,g5,ruU,Nat.reduceEqDiff]
 clear g2 g3 g5 E
 rintro E X' ⟨hX',g2,g3,g5,g6⟩
 rw[hX']
 by_cases c8:op=8
 ·subst c8
  obtain⟨hl,hx0,hx1⟩:=h8 rfl
  obtain⟨n,off,sp,c,e,o,M,e2,n1,r1,m1⟩:=haY.one hl
  have e3:=e2
  simp only[Value.slice.injEq]at e3
  obtain⟨rfl,-,rfl⟩:=e3
  rw[iv_get,zA5 hl,zA6]at m1
  have hg:args.getD 0 0=args[0]:=by rw[zA9,zA5 hl]; rfl
  have i1:aIndexAddr Tryz.prog 35 (.slice (some ⟨n,off,sp⟩) args.length c0) (.int .i64 0)=some (.pointer (some ⟨n,off+0,none⟩)):=ia_of (i:=0) u35 s3 hl
  rw[hy]at n1
  rw[hg]at hx0 hx1
  have hw:IntKind.i64.wrap (s.b-args[0])=s.b-args[0]:=wrap_sm (by omega) (by omega)
  rw[if_pos rfl]
  simp only[zB6]at k0
  simp only[zB6,g2,hy,l0,k0,hT,qk_old,ruW,xF,ruU,Nat.reduceLT,Nat.reduceAdd]
  refine w_drawB [] [] (by kernel_rfl) (by kernel_rfl) rfl fun ops anc hA hG=>?_
  simp only[g2,g3,g5,hy,l0,l1,l2,k0,k1,k2,i1,n1,r1,m1,hw,qk_old,Tryz.results101,ruD,ruW,xF,ruU,Nat.reduceLT,Nat.reduceAdd,Nat.reduceEqDiff]
  rw[hg]
  exact Ax.Fin.mod rfl mY rfl
 rw[if_neg c8]
 by_cases c19:op=19
 ·subst c19
  rw[if_pos rfl]
  simp only[zB6]at k0
  cases lv with
  |false =>
   simp only[zB6,Int.reduceEq,g2,g6,hy,l0,k0,hT,hF,qk_old,Tryz.results101,ruW,xF,ruU,Nat.reduceLT,Nat.reduceAdd,Nat.reduceEqDiff]
   exact Ax.Fin.mod rfl mY rfl
  |true =>
   simp only[zB6,Int.reduceEq,g2,g5,g6,hy,l0,l2,k0,k2,hT,hF,qk_old,ruW,xF,ruU,Nat.reduceLT,Nat.reduceAdd,Nat.reduceEqDiff]
   have hrd:RdAt (ext Y [⟨3,false,[.int .i64 16,.int .i64 17,.int .i64 18]⟩]) 1 (.slice (some ⟨y+0,0,some 0⟩) 3 3) (iv [16,17,18]) ([16,17,18]:List Int).length:=⟨rfl,.inr ⟨by decide,y+0,0,some 0,3,3,false,[.int .i64 16,.int .i64 17,.int .i64 18],rfl,rk_of (by rw[bk_at hy (by simp)]; rfl),by rw[ext_next,hy]; simp,by simp,rfl⟩⟩
   refine (contains128_c _ _ [16,17,18] t.kind hrd (by decide)).to ?_
   have hcn:(([16,17,18]:List Int).any fun y=>decide (y=t.kind))=(decide (t.kind=16)||decide (t.kind=17)||decide (t.kind=18)):=by
    have:∀ a b:Int,decide (a=b)=decide (b=a):=fun a b=>decide_eq_decide.2 ⟨fun h=>h.symm,fun h=>h.symm⟩
    simp only[List.any_cons,List.any_nil,Bool.or_false,this 16,this 17,this 18,Bool.or_assoc]
   rw[hcn]
   simp only[Tryz.results101,ruW,ruU,Nat.reduceLT,Nat.reduceEqDiff]
   have mF:Mod [] H (ext Y [⟨3,false,[.int .i64 16,.int .i64 17,.int .i64 18]⟩]):=mY.trans (Mod.ext okY)
   exact Ax.Fin.mod rfl mF rfl
 rw[if_neg c19]
 have flip:∀ {x y:Int} {p:Bool},decide (¬x=y)=p->decide (x=y)=!p:=fun {x y p} h=>by
  rw[<-h]
  by_cases e:x=y<;>simp[e]
 by_cases c20:op=20
 ·subst c20
  rw[if_pos rfl]
  simp only[zB6]at k0
  obtain⟨p1,q1⟩:∃ p,decide (¬t.kind=19)=p:=⟨_,rfl⟩
  simp only[flip q1]
  cases lv<;>cases p1
  all_goals
   simp only[zB6,Int.reduceEq,g2,g5,g6,hy,l0,l2,k0,k2,hT,hF,q1,qk_old,Tryz.results101,ruW,xF,ruU,Nat.reduceLT,Nat.reduceAdd,Nat.reduceEqDiff]
   exact Ax.Fin.mod rfl mY rfl
 rw[if_neg c20]
 by_cases c15:op=15
 ·subst c15
  rw[if_pos rfl]
  obtain⟨p1,q1⟩:∃ p,decide ((0:Int)<(s.fs.length:Int))=p:=⟨_,rfl⟩
  obtain⟨p2,q2⟩:∃ p,decide ((0:Int)<s.b)=p:=⟨_,rfl⟩
  have e1:decide (s.fs≠[])=p1:=by
   rw[<-q1]
   cases s.fs with
   |nil=>rfl
   |cons a r=>simp
  rw[e1,q2]
  simp only[zB6]at k0
  cases p1<;>cases p2
  all_goals
   simp only[zB6,Int.reduceEq,g2,g3,hy,l0,l1,k0,k1,hT,hF,q1,q2,qk_old,Tryz.results101,ruW,xF,ruU,Nat.reduceLT,Nat.reduceAdd,Nat.reduceEqDiff]
   exact Ax.Fin.mod rfl mY rfl
 rw[if_neg c15]
 have hcs:op=0\/op=1\/op=2\/op=3\/op=4\/op=5\/op=6\/op=7\/op=9\/op=10\/op=11\/op=12\/op=13\/op=14\/op=16\/op=17\/op=18\/op=21\/op=22\/op=23\/op=24\/op=25\/op=26\/op=27:=by omega
 rcases hcs with rfl|rfl|rfl|rfl|rfl|rfl|rfl|rfl|rfl|rfl|rfl|rfl|rfl|rfl|rfl|rfl|rfl|rfl|rfl|rfl|rfl|rfl|rfl|rfl
 all_goals
  simp only[zB6]at k0
  simp only[zB6,Int.reduceEq,g2,hy,l0,k0,hF,qk_old,Tryz.results101,ruW,xF,ruU,Nat.reduceLT,Nat.reduceAdd,Nat.reduceEqDiff]
  exact Ax.Fin.mod rfl mY rfl
set_option maxRecDepth 100000
theorem ff176 (f:Fr):fits Tryz.prog [3,3,3] (frV f)=true:=by
 obtain⟨a,b,c⟩:=f
 kernel_rfl
theorem equal123_c (H:AHeap) (fs gs:List Fr) (fv gv:Value) (hf:RdAt H 3 fv (frC fs) fs.length) (hg:RdAt H 3 gv (frC gs) gs.length) (hl:fs.length<=1000000):Pure 123 [fv,gv] H (.bool (decide (fs=gs))):=by
 obtain⟨b,hb⟩:=Go.Ax.exq H.next
 obtain⟨f0,fc,ef⟩:=hf.sl
 obtain⟨g0',gc,eg⟩:=hg.sl
 refine callS_fn mixed Tryz.func123 rfl Tryz.ntmps123 (zB3 rfl) fun wf hsc=>?_
 rw[ef,eg]
 obtain⟨p3,q3⟩:∃ p,decide (¬(fs.length:Int)=(gs.length:Int))=p:=⟨_,rfl⟩
 cases p3 with
 |true =>
  have hne:=of_decide_eq_true q3
  rw[show decide (fs=gs)=false from decide_eq_false fun e=>hne (by rw[e])]
  simp only[q3,Tryz.results123,ruW,xF,ruU,entryE,Nat.reduceLT,Nat.reduceAdd,Nat.reduceEqDiff]
  exact Fin.pureE rfl rfl
 |false =>
 have hle:fs.length=gs.length:=by have:=of_decide_eq_false q3; omega
 simp only[q3,ruW,xF,ruU,entryE,Nat.reduceLT,Nat.reduceAdd,Nat.reduceEqDiff]
 refine w_env fun E hE=>?_
 have g0:E 0=fv:=by rw[hE,ef]; simp only[ruU,Nat.reduceEqDiff]
 have g1:E 1=gv:=by rw[hE,eg]; simp only[ruU,Nat.reduceEqDiff]
 have g12:E 12=.int .i64 (fs.length:Int):=by rw[hE]; rfl
 have g13:E 13=.int .i64 ((0:Nat):Int):=by rw[hE]; rfl
 clear hE
 refine w_loop (fun (j:Nat) E' H'=>H'=ext H []/\j<=fs.length/\fs.take j=gs.take j/\E' 0=fv/\E' 1=gv/\E' 12=.int .i64 (fs.length:Int)/\E' 13=.int .i64 (j:Int)) (fun j=>fs.length-j) 0 ⟨rfl,zC0 _,rfl,g0,g1,g12,g13⟩ ?_
 clear g0 g1 g12 g13 E
 rintro j E H' ⟨hH,hj,htk,g0,g1,g12,g13⟩
 rw[hH]
 by_cases hje:j=fs.length
 ·have hdj:decide ((j:Int)<(fs.length:Int))=false:=decide_eq_false (by omega)
  simp only[g12,g13,hdj,Tryz.results123,ruW,ruU,Nat.reduceLT]
  rw[zE8 (by omega),zE8 (by omega)]at htk
  rw[decide_eq_true htk]
  exact Fin.pureE rfl rfl
 ·have hjl:j<fs.length:=by omega
  have hdj:decide ((j:Int)<(fs.length:Int))=true:=decide_eq_true (by omega)
  obtain⟨f,hfj⟩:∃ f,fs[j]?=some f:=⟨_,zA5 hjl⟩
  obtain⟨g,hgj⟩:∃ g,gs[j]?=some g:=⟨_,zA5 (by omega)⟩
  obtain⟨n,off,sp,c,e,o,M,e1,n1,r1,ia,ld⟩:=fr_oneC hf hfj
  obtain⟨n',off',sp',c',e',o',M',e1',n1',r1',ia',ld'⟩:=fr_oneC hg hgj
  rw[e1]at ia g0
  rw[e1']at ia' g1
  rw[hb]at n1 n1'
  have hw:IntKind.i64.wrap ((j:Int)+1)=((j+1:Nat):Int):=wrap_succ (by omega)
  simp only[g12,g13,hdj,ruW,ruU,Nat.reduceLT,Nat.reduceEqDiff]
  refine w_drawB [] [] (by kernel_rfl) (by kernel_rfl) rfl fun ops anc hA hG=>?_
  simp only[g0,g1,hb,ia,ia',n1,n1',r1,r1',ld,ld',qk_old,ruD,ruW,ruU,Nat.reduceLT,Nat.reduceAdd,Nat.reduceEqDiff]
  refine wd_eqS fl176 ag176 gd176 (fr_neq f g) rfl rfl (by decide) rfl rfl (ff176 _) (ff176 _) ?_
  by_cases hfg:f=g
  ·rw[decide_eq_true hfg]
   simp only[g13,hw,Bool.not_true,ruD,ruW,ruU,Nat.reduceLT,Nat.reduceAdd,Nat.reduceEqDiff]
   refine loopC_next ⟨j+1,by omega,rfl,by omega,?_,?_,?_,?_,?_⟩
   ·rw[List.take_add_one,List.take_add_one,htk,hfj,hgj,hfg]
   ·rw[e1]; simp only[g0,ruU,Nat.reduceEqDiff]
   ·rw[e1']; simp only[g1,ruU,Nat.reduceEqDiff]
   ·exact g12
   ·rfl
  ·rw[decide_eq_false hfg]
   simp only[Bool.not_false,Tryz.results123,ruD,ruW,ruU,Nat.reduceLT,Nat.reduceAdd]
   have:decide (fs=gs)=false:=decide_eq_false fun e=>hfg (by
    rw[e,hgj]at hfj
    exact (Option.some.inj hfj).symm)
   rw[this]
   exact Fin.pureE rfl rfl
theorem same99_c (H:AHeap) (s t:St) (fv gv:Value) (hf:RdAt H 3 fv (frC s.fs) s.fs.length) (hg:RdAt H 3 gv (frC t.fs) t.fs.length) (hl:s.fs.length<=1000000):Pure 99 [stC s fv,stC t gv] H (.bool (decide (s=t))):=by
 obtain⟨b,hb⟩:=Go.Ax.exq H.next
 obtain⟨f0,fc,ef⟩:=hf.sl
 obtain⟨g0,gc,eg⟩:=hg.sl
 refine callS_fn mixed Tryz.func99 rfl Tryz.ntmps99 (zB3 rfl) fun wf hsc=>?_
 have hok:=wf.base
 have hbase:H.base<=b:=hb▸hok
 rw[scbL_iff]at hsc
 have hsc0:=sc_stC (hsc _ (zB8 ..))
 have hsc1:=sc_stC (hsc _ (zB9 _ (zB8 ..)))
 rw[hb,ef]at hsc0
 rw[hb,eg]at hsc1
 have hsc2:=scb_mono (show b<=b+1 by omega) _ hsc1
 obtain⟨p1,q1⟩:∃ p,decide (s.h=t.h)=p:=⟨_,rfl⟩
 obtain⟨p2,q2⟩:∃ p,decide (s.b=t.b)=p:=⟨_,rfl⟩
 have he:decide (s=t)=(p1&&(p2&&decide (s.fs=t.fs))):=by
  obtain⟨h,b',fs⟩:=s
  obtain⟨h',b'',fs'⟩:=t
  rw[<-q1,<-q2]
  by_cases h1:h=h'<;>by_cases h2:b'=b''<;>by_cases h3:fs=fs'<;>simp[h1,h2,h3]
 rw[he,ef,eg]
 unfold stC
 cases p1 with
 |false =>
  simp only[hb,hsc0,hsc2,q1,Tryz.results99,ruW,xF,ruU,entryE,Nat.reduceLT,Nat.reduceAdd,Nat.reduceEqDiff]
  exact Fin.pureE rfl rfl
 |true =>
 cases p2 with
 |false =>
  simp only[hb,hsc0,hsc2,q1,q2,Tryz.results99,ruW,xF,ruU,entryE,Nat.reduceLT,Nat.reduceAdd,Nat.reduceEqDiff]
  exact Fin.pureE rfl rfl
 |true =>
  simp only[hb,hsc0,hsc2,q1,q2,ruW,xF,ruU,entryE,Nat.reduceLT,Nat.reduceAdd,Nat.reduceEqDiff]
  have hq:=equal123_c (ext H [⟨93,false,[.int .i64 s.h,.int .i64 s.b,.slice f0 s.fs.length fc]⟩,⟨93,false,[.int .i64 t.h,.int .i64 t.b,.slice g0 t.fs.length gc]⟩]) s.fs t.fs fv gv hf.ext hg.ext hl
  rw[ef,eg]at hq
  refine hq.to ?_
  simp only[Tryz.results99,ruW,ruU,Nat.reduceLT,Nat.reduceEqDiff]
  exact Fin.pureE rfl rfl
def vfC (least most depth:Int) (u p l ix st q:Value):List Value:=[.int .i64 least,.int .i64 most,.int .i64 depth,u,p,l,ix,st,q]
theorem deep74_c (H:AHeap) (v:Nat) (least most depth:Int) (u p l ix st q:Value) (s:St) (fa:Option Addr) (fc:Nat) (hv:bk H v=some ⟨90,false,vfC least most depth u p l ix st q⟩) (hvl:v<H.next) :
  Pure 74 [.pointer (some ⟨v,0,none⟩),stC s (.slice fa s.fs.length fc)] H (.bool (deepR depth 200 1000 s)):=by
 obtain⟨b,hb⟩:=Go.Ax.exq H.next
 refine callS_fn mixed Tryz.func74 rfl Tryz.ntmps74 (zB3 rfl) fun wf hsc=>?_
 have hok:=wf.base
 have hbase:H.base<=b:=hb▸hok
 rw[scbL_iff]at hsc
 have s2:=sc_stC (hsc _ (zB9 _ (zB8 ..)))
 rw[hb]at s2 hvl
 unfold vfC at hv
 obtain⟨d1,h1⟩:∃ d,decide (depth<s.h)=d:=⟨_,rfl⟩
 obtain⟨d2,h2⟩:∃ d,decide ((200:Int)<(s.fs.length:Int))=d:=⟨_,rfl⟩
 obtain⟨d3,h3⟩:∃ d,decide ((1000:Int)<s.b)=d:=⟨_,rfl⟩
 have he:deepR depth 200 1000 s=(d1||d2||d3):=by rw[deepR,h1,h2,h3]
 rw[he]
 unfold stC
 cases d1<;>cases d2<;>cases d3
 all_goals
  simp only[hb,s2,ruW,ruU,entryE,Nat.reduceLT,Nat.reduceAdd]
  refine w_drawB [(9,8),(15,14)] [(8,13),(14,19)] (by kernel_rfl) (by kernel_rfl) rfl fun ops anc hA hG=>?_
  simp only[all2_cons,all2_nil,and_true]at hA hG
  simp only[hb,hv,hvl,h1,h2,h3,hG,qk_old,Tryz.results74,ruD,ruW,xF,ruU,Nat.reduceLT,Nat.reduceAdd,Nat.reduceEqDiff]
  exact Fin.pureE rfl rfl
end Go.Proofs.YtnigelgcjfhghaaGreatDoor
namespace Go.Ax
section
variable {P : Program} {H : AHeap} {N : Nat} {E : Env} {ds : List Deferred} {ops : Array Oper} {rest : List Oper} {ty : TypeId} {pos : String} {after : Array Edge} {d i : Nat} {fps : List Fp} {anc : List Nat} {Q : AAct -> AHeap -> Prop}
theorem wd_appE {args:List Operand} {ts:Array TypeId} {v:Value} {M:List Bl} (F:List Nat) (ha:args.all (opOk P N)=true) (hd:d<N) (hF:∀ n∈F,H.get n≠none) (hc:∀ G:AHeap,G.next=H.next->(∀ n∈F,G.get n=H.get n)->aBuiltin P G .append ts (args.map (opv E))=some (v,ext G M))
  (hm:∀ r∈fps,Meets (anc.getD i 0) F [] (idsV v++M.flatMap fun x=>idsL x.l) r) (h:wkD P ops anc rest (i+1) (⟨i,F,[],H.next,H.next+M.length⟩::fps) (mkA N (upd E d v) ds) (ext H M) Q) :
  wkD P ops anc (⟨some d,.call ⟨.builtin .append,⟨args⟩,ts⟩,ty,pos,after,none⟩::rest) i fps (mkA N E ds) H Q:=by
 rw[wd_app ha]
 exact genV_extO (v:=v) (M:=M) F rfl hd hF (fun G h1 h2=>builtin_op ha (hc G h1 h2)) hm h
end
end Go.Ax
namespace Go.Proofs.YtnigelgcjfhghaaGreatDoor
open Go.Ax
set_option maxRecDepth 100000
theorem by176:bytesOf Tryz.prog 176=some 24:=by kernel_rfl
theorem z176:zeroOf Tryz.prog 176=some (.agg #[.int .i64 0,.int .i64 0,.int .i64 0]):=by kernel_rfl
theorem i91:intTy Tryz.prog 91=some false:=by kernel_rfl
def ClAt (X:AHeap) (w:Value) (fs:List Fr):Prop:=VsAt X 176 3 w (frC fs) fs.length\/(fs=[]/\∃ m,w=.slice (some ⟨m,0,some 0⟩) 0 0/\m<X.next/\X.get m≠none)
theorem ClAt.of {X G:AHeap} {w:Value} {fs:List Fr} (h:ClAt X w fs) (hn:X.next<=G.next) (hg:∀ n∈idsV w,G.get n=X.get n):ClAt G w fs:=by
 rcases h with h|⟨h0,m,rfl,h1,h2⟩
 ·exact .inl (h.of hn hg)
 ·exact .inr ⟨h0,m,rfl,by omega,by rw[hg m (by simp[idsV])]; exact h2⟩
theorem ClAt.ne {X:AHeap} {w:Value} {fs:List Fr} (h:ClAt X w fs):∀ n∈idsV w,X.get n≠none/\n<X.next:=by
 rcases h with h|⟨h0,m,rfl,h1,h2⟩
 ·exact h.ne
 ·intro n hn
  simp only[idsV,zA4]at hn
  subst hn
  exact⟨h2,h1⟩
theorem clone130_c (H:AHeap) (fv:Value) (fs:List Fr) (hf:FrAt 176 H fv fs) (hl:fs.length<=1000000) (hok:H.base<=H.next):CallA Tryz.prog 130 [fv] H (fun out X=>∃ w,out=.ok w/\ClAt X w fs/\Mod [] H X/\∀ n∈idsV w,H.next<=n):=by
 obtain⟨b,hb⟩:=Go.Ax.exq H.next
 refine callE_fn mixed Tryz.func130 rfl Tryz.ntmps130 (zB3 rfl) ?_
 obtain⟨rfl,rfl⟩|⟨n,c,M,rfl,hc,hk,hn,hlM,ht⟩:=hf
 ·simp only[hb,Tryz.results130,ruW,xF,ruU,entryE,Nat.reduceLT,Nat.reduceEqDiff]
  exact⟨_,rfl,.inl VsAt.nil,Mod.refl,fun n hn=>by simp[idsV]at hn⟩
 ·have hrd:RdAt H 3 (.slice (some ⟨n,0,none⟩) fs.length c) (frC fs) fs.length:=FrAt.rd (.inr ⟨n,c,M,rfl,hc,hk,hn,hlM,ht⟩)
  have happ:=own_appN (st:=91) (e:=176) (by1:=24) (sz:=3) (z:=.agg #[.int .i64 0,.int .i64 0,.int .i64 0]) u91 s176 by176 z176 rfl i91 hb hok hrd (frC_one fs) (frC_sc _ fs) (by simp only[small,zA7,zD9]; omega)
  have hid:=own_ids (b:=b) (cnt:=fs.length)
  simp only[hb,happ,Tryz.results130,ruW,xF,ruU,entryE,Nat.reduceLT,Nat.reduceEqDiff]
  refine⟨_,rfl,?_,Mod.ext hok,fun q hq=>by have:=hid q hq; omega⟩
  by_cases h0:fs.length=0
  ·refine .inr ⟨zE7 h0,b+0,?_,?_,?_⟩
   ·rw[ownW,if_pos h0]
   ·rw[ext_next,hb,ownL,if_pos h0]; simp
   ·rw[ownL,if_pos h0]
    exact bk_ne (b:=⟨176,false,[]⟩) (by rw[bk_at hb (by simp)]; rfl)
  ·refine .inl ⟨frC_len fs,frC_one fs,.inr ⟨by omega,b+1,?_,?_,?_⟩⟩
   ·rw[ownW,if_neg h0]
   ·rw[ownL,if_neg h0,bk_at hb (by simp)]; rfl
   ·rw[ext_next,hb,ownL,if_neg h0]; simp
theorem open129_c (H:AHeap) (s:St) (fv:Value) (kind:Int) (hf:FrAt 176 H fv s.fs) (hl:s.fs.length<=1000000) (hok:H.base<=H.next) :
  CallA Tryz.prog 129 [stC s fv,.int .i64 kind] H (fun out X=>∃ w,out=.ok (stC ⟨s.h,s.b,s.fs++[⟨kind,s.h,s.b⟩]⟩ w)/\FrAt 176 X w (s.fs++[⟨kind,s.h,s.b⟩])/\Mod [] H X/\∀ n∈idsV w,H.next<=n):=by
 obtain⟨b,hb⟩:=Go.Ax.exq H.next
 obtain⟨f0,fc,ef⟩:=hf.sl
 have sfv:=hf.sc
 rw[hb,ef]at sfv
 have sfv1:=scb_mono (show b<=b+1 by omega) _ sfv
 refine callE_fn mixed Tryz.func129 rfl Tryz.ntmps129 (zB3 rfl) ?_
 rw[ef]
 unfold stC
 simp only[hb,sfv,ruW,xF,ruU,entryE,Nat.reduceLT,Nat.reduceAdd,Nat.reduceEqDiff]
 generalize hX:ext H _=X
 have mX:Mod [] H X:=hX▸Mod.ext hok
 have nX:X.next=b+2:=by rw[<-hX,ext_next,hb]; rfl
 have k0:bk X (b+0)=some ⟨93,false,[.int .i64 s.h,.int .i64 s.b,.slice f0 s.fs.length fc]⟩:=by rw[<-hX,bk_at hb (by simp)]; rfl
 have k1:bk X (b+1)=some ⟨93,false,[.int .i64 0,.int .i64 0,.slice none 0 0]⟩:=by rw[<-hX,bk_at hb (by simp)]; rfl
 clear hX
 have okX:=mX.ok hok
 obtain⟨x,hx⟩:=Go.Ax.exq X.next
 have hxb:b+2=x:=nX.symm.trans hx
 have xb:X.base<=x:=hx▸okX
 have l0:b+0<x:=by omega
 have l1:b+1<x:=by omega
 have hfX:=hf.mod0 mX
 rw[ef]at hfX hf
 rw[show X=ext X [] from rfl]
 refine w_drawB [(2,0),(2,1),(10,2),(10,9),(10,7),(10,5),(10,1),(11,10),(11,9),(11,2),(12,0),(12,1),(12,2),(12,3),(12,4),(12,5),(12,6),(12,7),(12,8),(12,9),(12,10)] [] (by kernel_rfl) (by kernel_rfl) rfl fun ops anc hA hG=>?_
 simp only[all2_cons]at hA
 simp only[hx,l0,k0,qk_old,ruD,ruW,xF,ruU,Nat.reduceLT,Nat.reduceAdd,Nat.reduceEqDiff]
 have hrn:=restrict_next X (idsV (.slice f0 s.fs.length fc))
 have hfR:FrAt 176 (X.restrict (idsV (.slice f0 s.fs.length fc))) (.slice f0 s.fs.length fc) s.fs:=hfX.of (by rw[hrn.1]; exact zB1 _) fun m hm=>by rw[restrict_get,if_pos hm]
 obtain⟨_,g,hc,w,rfl,cw,mg,hwlo⟩:=clone130_c (X.restrict (idsV (.slice f0 s.fs.length fc))) (.slice f0 s.fs.length fc) s.fs hfR hl (by rw[hrn.1,hrn.2.1]; exact zB1 _)
 rw[hrn.1]at hwlo
 refine genV_mod (W:=[]) (v:=w) (g:=g) (idsV (.slice f0 s.fs.length fc)) okX rfl (by kernel_rfl) (fun n hn=>(hfX.ne n hn).1) (fun n hn=>(hfX.ne n hn).2) (by simp) (by simp only[ruU]; exact hc) mg (by simp only[all2_cons,all2_nil,hA,true_or,and_true]) ?_
 intro Z D mZ hgF hgN hnZ hD
 have hD0:D=[]:=List.eq_nil_iff_forall_not_mem.2 fun n hn=>by have:=hD n hn; simp at this
 subst hD0
 replace mZ:Mod [] X Z:=mZ
 replace hnZ:Z.next=g.next:=hnZ
 have cwZ:ClAt Z w s.fs:=cw.of (zF1 hnZ.symm) fun n hn=>hgN n (hwlo n hn) (cw.ne n hn).2
 clear hgF hgN
 obtain⟨z,hz⟩:=Go.Ax.exq Z.next
 have okZ:=mZ.ok okX
 have zb:Z.base<=z:=hz▸okZ
 have lz:x<=z:=by have:=mZ.next; omega
 replace k0:=(mZ.bk (by omega) (by simp)).trans k0
 replace k1:=(mZ.bk (by omega) (by simp)).trans k1
 replace l0:b+0<z:=by omega
 replace l1:b+1<z:=by omega
 obtain⟨f,hf'⟩:∃ f:Fr,f=⟨kind,s.h,s.b⟩:=⟨_,rfl⟩
 have hfv:frV f=[.int .i64 kind,.int .i64 s.h,.int .i64 s.b]:=by rw[hf']; rfl
 rw[<-hf']
 have hl0X:b+0<X.next+0:=by omega
 rw[show Z=ext Z [] from rfl]
 simp only[hz,l0,k0,hl0X,qk_old,ruD,ruW,xF,ruU,Nat.reduceLT,Nat.reduceAdd,Nat.reduceEqDiff]
 refine⟨.inr fun _ n hn=>.inr (by simp only[zE2,idsV,zA4]at hn; omega),?_⟩
 have fin:∀ (G:AHeap) (D:List Nat) (v:Value),FrAt 176 G v (s.fs++[f])->Mod (idsV w) (ext Z [⟨176,false,[.int .i64 kind,.int .i64 s.h,.int .i64 s.b]⟩]) G->(∀ n∈idsV v,z<=n)->G.next=z+2->∃ y,G.next=y/\G.base<=y/\b+0<y/\b+1<y/\bk G (b+0)=some ⟨93,false,[.int .i64 s.h,.int .i64 s.b,.slice f0 s.fs.length fc]⟩/\bk G (b+1)=some ⟨93,false,[.int .i64 0,.int .i64 0,.slice none 0 0]⟩/\Mod [] X G:=fun G D v hv mG hvi hG=>by
  have mZE:Mod [] Z (ext Z [⟨176,false,[.int .i64 kind,.int .i64 s.h,.int .i64 s.b]⟩]):=Mod.ext okZ
  have hwi:∀ n∈idsV w,x<=n:=fun n hn=>by have:=hwlo n hn; omega
  have nE:(ext Z [⟨176,false,[.int .i64 kind,.int .i64 s.h,.int .i64 s.b]⟩]).next=z+1:=by rw[ext_next,hz]; rfl
  refine⟨z+2,hG,hG▸mG.ok (mZE.ok okZ),by omega,by omega,?_,?_,(mZ.trans mZE).step mG okX fun n hn=>.inr (by have:=hwi n hn; omega)⟩
  ·exact (mG.bk (by omega) (fun h=>by have:=hwi _ h; omega)).trans ((mZE.bk (by omega) (by simp)).trans k0)
  ·exact (mG.bk (by omega) (fun h=>by have:=hwi _ h; omega)).trans ((mZE.bk (by omega) (by simp)).trans k1)
 have kE:bk (ext Z [⟨176,false,[.int .i64 kind,.int .i64 s.h,.int .i64 s.b]⟩]) (z+0)=some ⟨176,false,[.int .i64 kind,.int .i64 s.h,.int .i64 s.b]⟩:=by rw[bk_at hz (by simp)]; rfl
 have hsm:small (s.fs.length+1) 24=true:=by simp only[small,zA7,zD9]; omega
 have hfc:frC s.fs++frV f=frC (s.fs++[f]):=by rw[frC_append]; simp[frC]
 have fin2:∀ (G:AHeap) (v:Value),FrAt 176 G v (s.fs++[f])->Mod [] X G->(∀ n∈idsV v,z<=n)->∀ F,Mod [b+0,b+1] G F->∃ w,Except.ok (.agg ⟨[.int .i64 s.h,.int .i64 s.b,v]⟩)=(Except.ok (.agg ⟨[.int .i64 s.h,.int .i64 s.b,w]⟩):Out)/\FrAt 176 F w (s.fs++[f])/\Mod [] H F/\∀ n∈idsV w,b<=n:=fun G v hv mG hvi F mF=>⟨v,rfl,hv.mod mF fun n hn h=>by
  have:=hvi n hn
  simp only[zB0,zE4,or_false]at h
  omega,(mX.trans mG).step mF hok fun n hn=>.inr (by simp only[zB0,zE4,or_false]at hn; omega),fun n hn=>by have:=hvi n hn; omega⟩
 rcases cwZ with hv|⟨h0,m,rfl,hm1,hm2⟩
 ·have hvE:VsAt (ext Z [⟨176,false,[.int .i64 kind,.int .i64 s.h,.int .i64 s.b]⟩]) 176 3 w (frC s.fs) s.fs.length:=hv.of (by rw[ext_next]; omega) (fun n hn=>ext_get_old (hv.ne n hn).2)
  refine wd_appV (v:=w) (vs:=frC s.fs) (cnt:=s.fs.length) (sz:=3) (e:=176) (by1:=24) (n:=z+0) (off:=0) (cnt2:=1) (cap:=1) (s:=some 0) (z:=.agg #[.int .i64 0,.int .i64 0,.int .i64 0]) (ws:=frV f) u91 s176 by176 z176 rfl i91 rfl rfl (by decide) hvE (rk_of kE) (by rw[ext_next,hz]; simp) (by simp) (by rw[hfv]; rfl) rfl (by decide) hsm (scbL_append (frC_sc _ _) rfl) ((Mod.ext (W:=[]) okZ).ok okZ) (by simp only[all2_cons,all2_nil,hA,true_or,and_true]) fun G D vG mG hD nG=>?_
  rw[hfc,show s.fs.length+1=(s.fs++[f]).length by simp]at vG
  rw[ext_next,hz]at vG nG ⊢
  have fG:=FrAt.vs vG
  simp only[zC7]at nG vG fG ⊢
  rw[show (s.fs++[f]).length=s.fs.length+1 by simp]at fG
  obtain⟨y,hy,yb,i0,i1,q0,q1,mXG⟩:=fin G D _ fG mG (fun n hn=>by simp only[idsV,zA4]at hn; omega) nG
  have hslz:scb y (.slice (some ⟨z+1,0,none⟩) (s.fs.length+1) (s.fs.length+1))=true:=by simp only[scb]; exact blt_of (by omega)
  have hslw:scb (y+0) (.slice (some ⟨z+1,0,none⟩) (s.fs.length+1) (s.fs.length+1))=true:=hslz
  rw[show G=ext G [] from rfl]
  simp only[hy,i0,i1,q0,q1,hslw,hA,qk_old,Tryz.results129,ruD,ruW,putL,Nat.reduceLeDiff,xF,ruU,Nat.reduceLT,Nat.reduceAdd,Nat.reduceEqDiff]
  rw[ext_nil]
  refine fin2 G _ fG mXG (fun n hn=>by simp only[idsV,zA4]at hn; omega) _ ?_
  exact (Mod.uw (by simp)).trans (Mod.uw (by simp))
 ·have hA0:=fun (G:AHeap) (hG:G.next=z+1) (hr:bk G (z+0)=some ⟨176,false,[.int .i64 kind,.int .i64 s.h,.int .i64 s.b]⟩)=>app_ex0 (X:=G) (st:=91) (n:=z+0) (off:=0) (cnt:=1) (cap:=1) (m:=m) (s:=some 0) (bl:=⟨176,false,[.int .i64 kind,.int .i64 s.h,.int .i64 s.b]⟩) (ws:=[.int .i64 kind,.int .i64 s.h,.int .i64 s.b]) u91 s176 by176 z176 rfl i91 (rk_of hr) (by simp) rfl (by decide) rfl rfl (by decide)
  have nE:(ext Z [⟨176,false,[.int .i64 kind,.int .i64 s.h,.int .i64 s.b]⟩]).next=z+1:=by rw[ext_next,hz]; rfl
  refine wd_appE (v:=.slice (some ⟨z+1,0,none⟩) 1 1) (M:=[⟨176,true,[.int .i64 kind,.int .i64 s.h,.int .i64 s.b]⟩]) [z+0] rfl (by decide) (fun n hn=>by simp only[zA4]at hn; subst hn; exact bk_ne kE) (fun G h1 h2=>?_) (by simp only[all2_cons,all2_nil,Meets,hA,true_or,and_true]) ?_
  ·simp only[ruU,Nat.reduceEqDiff]
   have:=hA0 G (by rw[h1,nE]) ((bk_get (h2 (z+0) (by simp))).trans kE)
   rw[h1,nE]at this
   exact this
  generalize hG':ext (ext Z _) _=G
  have mG:Mod (idsV (.slice (some ⟨m,0,some 0⟩) 0 0)) (ext Z [⟨176,false,[.int .i64 kind,.int .i64 s.h,.int .i64 s.b]⟩]) G:=hG'▸Mod.ext ((Mod.ext (W:=[]) okZ).ok okZ)
  have nG:G.next=z+2:=by rw[<-hG',ext_next,nE]; rfl
  have kG:bk G (z+1+0)=some ⟨176,true,[.int .i64 kind,.int .i64 s.h,.int .i64 s.b]⟩:=by rw[<-hG',bk_at nE (by simp)]; rfl
  clear hG'
  have fG:FrAt 176 G (.slice (some ⟨z+1,0,none⟩) 1 1) (s.fs++[f]):=by
   rw[h0]
   exact .inr ⟨z+1,1,_,rfl,zB1 _,kG,by omega,by simp,by rw[zD6]; simp only[zC7,frC,zD1,List.flatMap_nil,hfv]; rfl⟩
  obtain⟨y,hy,yb,i0,i1,q0,q1,mXG⟩:=fin G [] _ fG mG (fun n hn=>by simp only[idsV,zA4]at hn; omega) nG
  have hslz:scb y (.slice (some ⟨z+1,0,none⟩) 1 1)=true:=by simp only[scb]; exact blt_of (by omega)
  have hslw:scb (y+0) (.slice (some ⟨z+1,0,none⟩) 1 1)=true:=hslz
  rw[show G=ext G [] from rfl]
  simp only[hy,i0,i1,q0,q1,hslw,hA,qk_old,Tryz.results129,ruD,ruW,putL,Nat.reduceLeDiff,xF,ruU,Nat.reduceLT,Nat.reduceAdd,Nat.reduceEqDiff]
  rw[ext_nil]
  refine fin2 G _ fG mXG (fun n hn=>by simp only[idsV,zA4]at hn; omega) _ ?_
  exact (Mod.uw (by simp)).trans (Mod.uw (by simp))
set_option maxRecDepth 100000
abbrev Wv:=Wf × Value
def wfC (x:Wv):List Value:=[.int .i64 x.1.x.pos,.int .i64 x.1.x.op,x.2,.int .i64 x.1.h,.int .i64 x.1.b,.bool x.1.c]
def wfV (x:Wv):Value:=.agg ⟨wfC x⟩
def wfL (fs:List Wv):List Value:=fs.flatMap wfC
theorem wfL_len (fs:List Wv):(wfL fs).length=fs.length*6:=by
 induction fs with
 |nil=>rfl
 |cons x r ih=>simp only[wfL,zD1,zC6,zA8]at ih ⊢; rw[ih]; simp only[wfC,zA8,zC5]; omega
theorem wfL_at:∀ {fs:List Wv} {i:Nat} {x:Wv},fs[i]?=some x->((wfL fs).drop (i*6)).take 6=wfC x
 |y::r,0,x,h=>by
  simp only[zE9,Option.some.injEq]at h
  subst h
  rfl
 |y::r,i+1,x,h=>by
  rw[zD7]at h
  rw[show (i+1)*6=6+i*6 by omega,wfL,zD1,List.drop_append,List.drop_eq_nil_of_le (by simp[wfC])]
  simp only[wfC,zA8,zC5,zD6]
  rw[show 6+i*6-(0+1+1+1+1+1+1)=i*6 by omega]
  exact wfL_at h
theorem wfL_append (a b:List Wv):wfL (a++b)=wfL a++wfL b:=by simp[wfL]
theorem wfL_take:∀ (fs:List Wv) (k:Nat),wfL (fs.take k)=(wfL fs).take (k*6)
 |[],k=>by simp[wfL]
 |f::r,0=>by simp[wfL]
 |f::r,k+1=>by
  have h:=wfL_take r k
  simp only[wfL]at h
  rw[List.take_succ_cons,wfL,wfL,zD1,zD1,h,List.take_append,zE8 (l:=wfC f) (by simp[wfC]; omega)]
  simp only[wfC,zA8,zC5]
  rw[show (k+1)*6-(0+1+1+1+1+1+1)=k*6 by omega]
theorem wfC_one (x:Wv) (h:one x.2=true):(wfC x).all one=true:=by
 show (true&&(true&&(one x.2&&(true&&(true&&(true&&true))))))=true
 rw[h]
 rfl
theorem wfL_one {fs:List Wv} (h:∀ x∈fs,one x.2=true):(wfL fs).all one=true:=by
 induction fs with
 |nil=>rfl
 |cons f r ih =>
  simp only[wfL,zD1,List.all_append]at ih ⊢
  rw[ih fun x hx=>h x (zB9 _ hx),wfC_one f (h f (zB8 ..))]
  rfl
theorem wfC_sc {N:Nat} {x:Wv} (h:scb N x.2=true):scbL N (wfC x)=true:=by
 simp only[wfC,scbL,h,scb,zC9]
theorem wfL_sc {N:Nat} {fs:List Wv} (h:∀ x∈fs,scb N x.2=true):scbL N (wfL fs)=true:=by
 induction fs with
 |nil=>rfl
 |cons f r ih =>
  rw[wfL,zD1]
  exact scbL_append (wfC_sc (h f (zB8 ..))) (ih fun x hx=>h x (zB9 _ hx))
def ClW (X:AHeap) (w:Value) (fs:List Wv):Prop:=VsAt X 149 6 w (wfL fs) fs.length\/(fs=[]/\∃ m,w=.slice (some ⟨m,0,some 0⟩) 0 0/\m<X.next/\X.get m≠none)
section
variable {X G : AHeap} {w : Value} {fs : List Wv}
theorem ClW.of (h:ClW X w fs) (hn:X.next<=G.next) (hg:∀ n∈idsV w,G.get n=X.get n):ClW G w fs:=by
 rcases h with h|⟨h0,m,rfl,h1,h2⟩
 ·exact .inl (h.of hn hg)
 ·exact .inr ⟨h0,m,rfl,by omega,by rw[hg m (by simp[idsV])]; exact h2⟩
theorem ClW.ne (h:ClW X w fs):∀ n∈idsV w,X.get n≠none/\n<X.next:=by
 rcases h with h|⟨h0,m,rfl,h1,h2⟩
 ·exact h.ne
 ·intro n hn
  simp only[idsV,zA4]at hn
  subst hn
  exact⟨h2,h1⟩
theorem ClW.mod {W:List Nat} (h:ClW X w fs) (m:Mod W X G) (hd:∀ n∈idsV w,n∉W):ClW G w fs:=h.of m.next fun n hn=>m.get n (h.ne n hn).2 (hd n hn)
theorem ClW.mod0 (h:ClW X w fs) (m:Mod [] X G):ClW G w fs:=h.mod m (by simp)
theorem ClW.sl (h:ClW X w fs):∃ a,w=.slice a fs.length fs.length:=by
 rcases h with h|⟨rfl,m,rfl,_⟩
 ·exact h.len
 ·exact⟨_,rfl⟩
theorem ClW.sc (h:ClW X w fs):scb X.next w=true:=by
 rcases h with h|⟨rfl,m,rfl,h1,_⟩
 ·exact VsAt.sc h
 ·exact blt_of h1
theorem ClW.cut (h:ClW X w fs) {k:Nat} (hk:k<fs.length):∃ n,w=.slice (some ⟨n,0,none⟩) fs.length fs.length/\n<X.next/\X.get n≠none/\RdAt X 6 (.slice (some ⟨n,0,none⟩) k fs.length) (wfL (fs.take k)) (fs.take k).length/\(∀ x∈fs,one x.2=true) /\
  ∀ G:AHeap,G.get n=X.get n->aSlice Tryz.prog G 66 w none (some (.int .i64 (k:Int))) none=some (.slice (some ⟨n,0,none⟩) k fs.length,G):=by
 have u66:Tryz.prog.underlying 66=some (.slice 149):=by kernel_rfl
 have s149:szOf Tryz.prog 149=some 6:=by kernel_rfl
 rcases h with⟨h1,h2,⟨h0,rfl⟩|⟨h0,n,rfl,hb,hlt⟩⟩|⟨rfl,_⟩
 ·omega
 ·have htl:(fs.take k).length=k:=by rw[zE1]; omega
  refine⟨n,rfl,hlt,bk_ne hb,?_,fun x hx=>?_,fun G hg=>?_⟩
  ·by_cases hk0:k=0
   ·subst hk0
    exact⟨by simp[wfL],.inl ⟨rfl,_,_,rfl⟩⟩
   ·refine⟨wfL_len _,.inr ⟨by omega,n,0,none,fs.length,149,true,wfL fs,by rw[htl],rk_of hb,hlt,by rw[htl,h1]; omega,?_⟩⟩
    rw[htl,zF0,wfL_take]
  ·rw[zD4]at h2
   exact h2 _ (List.mem_flatMap.2 ⟨x,hx,by simp[wfC]⟩)
  ·have ho:isOpen G n=some true:=isOpen_bk ((bk_get hg).trans hb)
   simp only[aSlice,u66,s149,aSlice2,bound,zA1,zA3,exactAt,ho,zA6,Bool.not_true]
   rw[if_pos (by omega),zA3,zB5,if_pos (by omega),if_pos trivial]
 ·simp at hk
end
theorem u66:Tryz.prog.underlying 66=some (.slice 149):=by kernel_rfl
theorem s149:szOf Tryz.prog 149=some 6:=by kernel_rfl
theorem by149:bytesOf Tryz.prog 149=some 64:=by kernel_rfl
theorem z149:zeroOf Tryz.prog 149=some (.agg #[.int .i64 0,.int .i64 0,.slice none 0 0,.int .i64 0,.int .i64 0,.bool false]):=by kernel_rfl
theorem i66:intTy Tryz.prog 66=some false:=by kernel_rfl
theorem cl_own {H:AHeap} {b:Nat} {v:Value} {fs:List Wv} (hb:H.next=b) (hok:H.base<=H.next) (h:RdAt H 6 v (wfL fs) fs.length) (hone:∀ x∈fs,one x.2=true) (hsc:∀ x∈fs,scb b x.2=true) (hl:fs.length<=1000000) :
  aBuiltin Tryz.prog (ext H [⟨149,false,[]⟩]) .append ⟨[66,66]⟩ [.slice (some ⟨b+0,0,some 0⟩) 0 0,v]=some (ownW b fs.length,ext H (ownL 149 (wfL fs) fs.length))/\ClW (ext H (ownL 149 (wfL fs) fs.length)) (ownW b fs.length) fs/\Mod [] H (ext H (ownL 149 (wfL fs) fs.length))/\∀ n∈idsV (ownW b fs.length),b<=n:=by
 have h1:=own_appN (st:=66) (e:=149) (by1:=64) (sz:=6) (z:=.agg #[.int .i64 0,.int .i64 0,.slice none 0 0,.int .i64 0,.int .i64 0,.bool false]) u66 s149 by149 z149 rfl i66 hb hok h (wfL_one hone) (wfL_sc fun x hx=>scb_mono (Nat.le_succ _) _ (hsc x hx)) (by simp only[small,zA7,zD9]; omega)
 refine⟨h1,?_,Mod.ext hok,fun n hn=>by have:=own_ids n hn; omega⟩
 by_cases h0:fs.length=0
 ·refine .inr ⟨zE7 h0,b+0,?_,?_,?_⟩
  ·rw[ownW,if_pos h0]
  ·rw[ext_next,hb,ownL,if_pos h0]; simp
  ·rw[ownL,if_pos h0]
   exact bk_ne (b:=⟨149,false,[]⟩) (by rw[bk_at hb (by simp)]; rfl)
 ·refine .inl ⟨wfL_len fs,wfL_one hone,.inr ⟨by omega,b+1,?_,?_,?_⟩⟩
  ·rw[ownW,if_neg h0]
  ·rw[ownL,if_neg h0,bk_at hb (by simp)]; rfl
  ·rw[ext_next,hb,ownL,if_neg h0]; simp
theorem cl_app {X:AHeap} {v:Value} {fs:List Wv} {f:Wv} {y n:Nat} (h:ClW X v fs) (hy:X.next=y) (hok:X.base<=X.next) (hl:fs.length<=1000000) (hone:one f.2=true) (hsc:∀ x∈fs++[f],scb y x.2=true) (hk:bk X n=some ⟨149,false,wfC f⟩) :
  ∃ G,aBuiltin Tryz.prog X .append ⟨[66,66]⟩ [v,.slice (some ⟨n,0,some 0⟩) 1 1]=some (.slice (some ⟨y,0,none⟩) (fs.length+1) (fs.length+1),ext G [])/\ClW G (.slice (some ⟨y,0,none⟩) (fs.length+1) (fs.length+1)) (fs++[f])/\Mod (idsV v) X G/\G.next=y+1:=by
 have hsm:small (fs.length+1) 64=true:=by simp only[small,zA7,zD9]; omega
 have e1:wfL fs++wfC f=wfL (fs++[f]):=by rw[wfL_append]; simp[wfL]
 rcases h with h|⟨rfl,m,rfl,h1,h2⟩
 ·obtain⟨G,k1,k2,k3,k4,_⟩:=vs_app (P:=Tryz.prog) (H:=X) (st:=66) (xt:=66) (e:=149) (sz:=6) (by1:=64) (z:=.agg #[.int .i64 0,.int .i64 0,.slice none 0 0,.int .i64 0,.int .i64 0,.bool false]) (n:=n) (off:=0) (cnt2:=1) (cap:=1) (s:=some 0) (x:=y) (ws:=wfC f) (b:=⟨149,false,wfC f⟩)
   u66 s149 by149 z149 rfl i66 h (rk_of hk) (by simp[wfC]) rfl (wfC_one f hone) (by decide) hsm hy (by rw[e1,hy]; exact wfL_sc hsc)
  rw[e1]at k2
  exact⟨G,k1,.inl (by rw[zC6]; exact k2),k3 hok,k4⟩
 ·have hA:=app_ex0 (X:=X) (st:=66) (n:=n) (off:=0) (cnt:=1) (cap:=1) (m:=m) (s:=some 0) (bl:=⟨149,false,wfC f⟩) (ws:=wfC f) u66 s149 by149 z149 rfl i66 (rk_of hk) (by simp[wfC]) rfl (by decide) (wfC_one f hone) (by rw[hy]; exact wfC_sc (hsc f (by simp))) (by decide)
  rw[hy]at hA
  refine⟨ext X [⟨149,true,wfC f⟩],hA,.inl ⟨by simp[wfL,wfC],by simpa[wfL]using wfC_one f hone,.inr ⟨by simp,y,rfl,?_,?_⟩⟩,Mod.ext hok,?_⟩
  ·rw[show y=y+0 from rfl,bk_at hy (by simp)]
   simp[wfL]
  ·rw[ext_next,hy]; simp
  ·rw[ext_next,hy]; rfl
theorem ClW.one {X:AHeap} {w:Value} {fs:List Wv} {i:Nat} {x:Wv} (h:ClW X w fs) (hi:fs[i]?=some x):∃ n,w=.slice (some ⟨n,0,none⟩) fs.length fs.length/\n<X.next/\bk X n=some ⟨149,true,wfL fs⟩/\aIndexAddr Tryz.prog 66 w (.int .i64 (i:Int))=some (.pointer (some ⟨n,0+i*6,none⟩))/\ldB Tryz.prog 149 (0+i*6) (some ⟨149,true,wfL fs⟩)=some (wfV x)/\(wfL fs)[0+(i*6+3)]?=some (.int .i64 x.1.h)/\(wfL fs)[0+(i*6+4)]?=some (.int .i64 x.1.b)/\(wfL fs)[0+(i*6+5)]?=some (.bool x.1.c):=by
 have hl:=(zE6.1 hi).1
 rcases h with⟨h1,h2,⟨h0,rfl⟩|⟨h0,n,rfl,hb,hlt⟩⟩|⟨rfl,_⟩
 ·omega
 ·have h5:=wfL_at hi
  have h1':aggT Tryz.prog 149=some true:=by kernel_rfl
  have hM:∀ k,k<6->(wfL fs)[i*6+k]?=(wfC x)[k]?:=fun k hk=>by
   rw[<-h5,List.getElem?_take_of_lt hk,List.getElem?_drop]
  refine⟨n,rfl,hlt,hb,ia_of u66 s149 hl,?_,by rw[zC3]; exact hM 3 (by omega),by rw[zC3]; exact hM 4 (by omega),by rw[zC3]; exact hM 5 (by omega)⟩
  rw[ld_agg h1',s149,zA3,zC3,if_pos (by rw[h1]; omega),h5]
  rfl
 ·simp at hl
theorem wd_appC {H:AHeap} {N:Nat} {E:Env} {ds:List Deferred} {ops:Array Oper} {anc:List Nat} {rest:List Oper} {d i:Nat} {fps:List Fp} {ty:TypeId} {pos:String} {after:Array Edge} {Q:AAct->AHeap->Prop} {args:List Operand} {n:Nat} {v:Value} {fs:List Wv} {f:Wv}
  (ha:args.all (opOk Tryz.prog N)=true) (hargs:args.map (opv E)=[v,.slice (some ⟨n,0,some 0⟩) 1 1]) (hd:d<N)
  (h:ClW H v fs) (hb:bk H n=some ⟨149,false,wfC f⟩) (hn:n<H.next) (hl:fs.length<=1000000) (hone:one f.2=true) (hsc:∀ x∈fs++[f],scb H.next x.2=true) (hok:H.base<=H.next)
  (hm:∀ r∈fps,(anc.getD i 0).testBit r.i=true\/(r.hi<=r.lo/\(∀ k∈r.W,k∉n::idsV v)/\(∀ k∈r.F,k∉idsV v)))
  (hk:∀ Z D,ClW Z (.slice (some ⟨H.next,0,none⟩) (fs.length+1) (fs.length+1)) (fs++[f])->Mod (idsV v) H Z->(∀ k∈D,k∈idsV v)->Z.next=H.next+1 ->
   wkD Tryz.prog ops anc rest (i+1) (⟨i,n::idsV v,D,H.next,H.next+1⟩::fps) (mkA N (upd E d (.slice (some ⟨H.next,0,none⟩) (fs.length+1) (fs.length+1))) ds) Z Q) :
  wkD Tryz.prog ops anc (⟨some d,.call ⟨.builtin .append,⟨args⟩,⟨[66,66]⟩⟩,ty,pos,after,none⟩::rest) i fps (mkA N E ds) H Q:=by
 rw[wd_app ha]
 have hF:∀ k∈n::idsV v,H.get k≠none/\k<H.next:=fun k hk=>by
  rcases zB0.1 hk with rfl|hk
  ·exact⟨bk_ne hb,hn⟩
  ·exact h.ne k hk
 have hrn:=restrict_next H (n::idsV v)
 have hv:=h.of (G:=H.restrict (n::idsV v)) (zF1 hrn.1.symm) (fun k hk=>by rw[restrict_get,if_pos (by simp[hk])])
 obtain⟨G,k1,k2,k3,k4⟩:=cl_app (y:=H.next) hv hrn.1 (by rw[hrn.1,hrn.2.1]; exact zB1 _) hl hone hsc (show bk (H.restrict (n::idsV v)) n=some ⟨149,false,wfC f⟩ from (bk_get (by rw[restrict_get,if_pos (by simp)])).trans hb)
 rw[ext_nil]at k1
 refine genV_modO (H:=H) (W:=idsV v) (n::idsV v) hok (fun k hk=>(hF k hk).1) (fun k hk=>(hF k hk).2) (fun k hk=>by simp[hk]) (app_op (v:=_) (G:=G) ha (by rw[hargs]; exact k1)) k3 hm fun Z D mZ hFZ hNZ hnZ hDZ=>?_
 rw[k4]at hnZ hNZ
 rw[k4]
 have:=hk Z D ?_ mZ hDZ hnZ
 ·simp only[put_some N E ds d _ hd]
  exact this
 ·refine k2.of (by omega) fun q hq=>?_
  simp only[idsV,zA4]at hq
  exact hNZ q (by omega) (by omega)
structure Wc where
 least:Int
 most:Int
 depth:Int
 u:Value
 p:Value
 lv:Value
 hv:Value
 ls:List Iv
 hs:List Int
structure WcOk (H0:AHeap) (c:Wc):Prop where
 ok:H0.base<=H0.next
 ins:InsRd H0 c.lv c.ls
 hgt:RdAt H0 1 c.hv (iv c.hs) c.hs.length
 len:c.ls.length<=10000
 wf:∀ x∈c.ls,WfI x.1/\x.1.args.length<=10000
 su:scb H0.next c.u=true
 sp:scb H0.next c.p=true
 sl:scb H0.next c.lv=true
 sh:scb H0.next c.hv=true
structure WkAt (H0:AHeap) (c:Wc) (H:AHeap) (n:Nat) (a h b:Int) (fs:List Wv):Prop where
 old:Mod [] H0 H
 lo:H0.next<=n
 lt:n<H.next
 bk:∃ fv,bk H n=some ⟨68,false,wkC c.least c.most c.depth c.u c.p c.lv c.hv a h b fv⟩/\ClW H fv fs/\∀ k∈idsV fv,H0.next<=k/\k≠n
 mem:∀ f∈fs,(f.1.x,f.2)∈c.ls
theorem own_sl (b cnt:Nat):∃ a,ownW b cnt=.slice a cnt cnt:=by
 unfold ownW
 split
 ·rename_i h; exact⟨_,by rw[h]⟩
 ·exact⟨_,rfl⟩
theorem RdAt.oneV {H:AHeap} {sz cnt:Nat} {v:Value} {vs:List Value} (h:RdAt H sz v vs cnt):one v=true:=by
 obtain⟨a,c,rfl⟩:=h.sl
 rfl
set_option maxRecDepth 100000
theorem tmod_nat (n m:Nat):((n:Int)).tmod (m:Int)=((n % m:Nat):Int):=by simp[Int.tmod]
theorem tdiv_nat (n m:Nat):((n:Int)).tdiv (m:Int)=((n / m:Nat):Int):=by simp[Int.tdiv]
def lvF (fs:List Wv) (k:Nat) (f:Wv) (fs2:List Wv):Prop:=fs2=fs.take k/\(f.1.c=true\/f.1.x.op≠18)\/fs2=fs.take k++[({f.1 with c:=true},f.2)]/\f.1.c=false/\f.1.x.op=18
theorem leaves62_c (H0:AHeap) (c:Wc) (hc:WcOk H0 c) (ks:Ks) (H:AHeap) (n:Nat) (a h b:Int) (fs:List Wv) (m:Nat) (hw:WkAt H0 c H n a h b fs) (hfs:FsOk (c.ls.map (·.1)) ks (fs.map (·.1))) (hfl:fs.length<=1000) (hm:m<=1073741824) (hok:H.base<=H.next) :
  CallA Tryz.prog 62 [.pointer (some ⟨n,0,none⟩),.int .i64 (m:Int)] H (fun out X=>Mod [] H0 X/\∃ r,out=.ok (.bool r)/\(r=true->∃ (w:Wk) (fs':List Wv),leavesP (c.ls.map (·.1)) (fs.map (·.1)) fs.length m=some w/\WkAt H0 c X n (w.at':Int) w.h w.b fs'/\fs'.map (·.1)=w.fs/\fs'.length<=fs.length+1)):=by
 obtain⟨x,hx⟩:=Go.Ax.exq H.next
 have lt0:=hw.lt
 rw[hx]at lt0
 refine callE_fn mixed Tryz.func62 rfl Tryz.ntmps62 (zB3 rfl) ?_
 simp only[ruW,ruU,entryE,Nat.reduceLT,Nat.reduceAdd]
 refine w_env fun E hE=>?_
 have g0:E 0=.pointer (some ⟨n,0,none⟩):=by rw[hE]; rfl
 have g1:E 1=.int .i64 (m:Int):=by rw[hE]; rfl
 clear hE
 refine w_loop (fun (st:Nat × Nat × Int × Int) E' X=>st.1<=fs.length/\st.2.1<=1073741824/\leavesP (c.ls.map (·.1)) (fs.map (·.1)) st.1 st.2.1=leavesP (c.ls.map (·.1)) (fs.map (·.1)) fs.length m/\WkAt H0 c X n a st.2.2.1 st.2.2.2 (fs.take st.1)/\X.base<=X.next/\E' 0=.pointer (some ⟨n,0,none⟩)/\E' 1=.int .i64 (st.2.1:Int)) (fun st=>st.1) (fs.length,m,h,b) ⟨zB1 _,hm,rfl,by rw[List.take_length,ext_nil]; exact hw,hok,g0,g1⟩ ?_
 clear g0 g1 E
 rintro⟨k,m',h',b'⟩ E X ⟨hk,hm',hlv,hwX,okX,g0,g1⟩
 simp only at hk hm' hlv hwX g1
 obtain⟨fv,kX,cX,lX⟩:=hwX.bk
 obtain⟨a0,ea⟩:=cX.sl
 have htl:(fs.take k).length=k:=by rw[zE1]; omega
 rw[htl]at ea
 obtain⟨y,hy⟩:=Go.Ax.exq X.next
 have yb:X.base<=y:=hy▸okX
 have ny:n<y:=hy▸hwX.lt
 have kX0:=kX
 unfold wkC at kX
 rw[ea]at kX
 rw[show X=ext X [] from rfl]
 cases k with
 |zero =>
  have hd:decide (0<((0:Nat):Int))=false:=rfl
  simp only[g0,hy,ny,kX,hd,qk_old,Tryz.results62,ruW,xF,ruU,Nat.reduceLT,Nat.reduceAdd]
  rw[ext_nil]
  exact⟨hwX.old,false,rfl,fun h=>by cases h⟩
 |succ k =>
  have hd:decide ((0:Int)<((k+1:Nat):Int))=true:=decide_eq_true (by omega)
  have hw1:IntKind.i64.wrap (((k+1:Nat):Int)-1)=(k:Int):=by
   have:=wrap_sm (n:=((k+1:Nat):Int)-1) (by omega) (by omega)
   exact this.trans (by omega)
  obtain⟨f,hf⟩:∃ f,fs[k]?=some f:=⟨_,zA5 (by omega)⟩
  have hft:(fs.take (k+1))[k]?=some f:=by rw[List.getElem?_take_of_lt (by omega)]; exact hf
  obtain⟨nf,ef,lnf,bf,ia,lf,_⟩:=cX.one hft
  obtain⟨nf',ef',_,gnf,rcut,h1c,hcut⟩:=cX.cut (k:=k) (by rw[htl]; omega)
  have e12:=ef.symm.trans ef'
  simp only[Value.slice.injEq,Option.some.injEq,Addr.mk.injEq,and_true]at e12
  subst e12
  rw[htl]at ef ef' rcut hcut
  have ef2:=ea.symm.trans ef
  simp only[Value.slice.injEq,and_true]at ef2
  rw[ef2]at kX
  rw[ef]at ia hcut
  rw[hy]at lnf
  have rf:=rk_of bf
  unfold wfV wfC at lf
  have hmem:=hwX.mem f (zF2 hft)
  have soX:∀ z∈fs.take (k+1),scb X.next z.2=true:=fun z hz=>scb_mono hwX.old.next _ (hc.ins.sc _ (hwX.mem z hz))
  have sf:=soX f (zF2 hft)
  rw[hy]at sf
  have havX:=(hc.ins.av _ hmem).mod0 hwX.old
  obtain⟨a1,c1,eav⟩:=havX.sl
  simp only at eav havX
  obtain⟨⟨⟨pos,op,args⟩,fh,fb,fc⟩,fav⟩:=f
  simp only at lf eav sf havX
  subst eav
  simp only[g0,hy,yb,ny,kX,hd,hw1,ia,lnf,rf,lf,sf,qk_old,ruW,putL,Nat.reduceLeDiff,xF,ruU,Nat.reduceLT,Nat.reduceAdd,Nat.reduceEqDiff]
  generalize hY:ext X _=Y
  have mY:Mod [] X Y:=hY▸Mod.ext okX
  have nY:Y.next=y+1:=by rw[<-hY,ext_next,hy]; rfl
  have kF:bk Y (y+0)=some ⟨149,false,[.int .i64 pos,.int .i64 op,.slice a1 args.length c1,.int .i64 fh,.int .i64 fb,.bool fc]⟩:=by rw[<-hY,bk_at hy (by simp)]; rfl
  clear hY
  have okY:=mY.ok okX
  have yb':Y.base<=y+1:=nY▸okY
  have ny':n<y+1:=by omega
  have yy':y+0<y+1:=by omega
  have nne:¬n=y+0:=by omega
  have kY:=(mY.bk (by omega) (by simp)).trans kX
  rw[show Y=ext Y [] from rfl]
  refine w_drawB [(11,8)] [] (by kernel_rfl) (by kernel_rfl) rfl fun ops anc hA hG=>?_
  simp only[all2_cons]at hA
  have nne2:¬y+0=n:=by omega
  generalize hcode:Code.seq (Code.region 5 _ _) _=code
  simp only[g0,nY,ny',yy',kF,kY,hA,nne2,qk_old,ruD,ruW,putL,Nat.reduceLeDiff,xF,ruU,Nat.reduceLT,Nat.reduceAdd,Nat.reduceEqDiff]
  subst hcode
  have mU:Mod [n] Y (ext (uw (uw Y n 8 [.int .i64 fh]) n 9 [.int .i64 fb]) []):=by rw[ext_nil]; exact (Mod.uw (by simp)).trans (Mod.uw (by simp))
  generalize hV:ext (uw (uw Y _ _ _) _ _ _) []=V
  rw[hV]at mU
  have nV:V.next=y+1:=by rw[<-hV,ext_nil,uw_next,uw_next,nY]
  have kV:bk V n=some ⟨68,false,[.int .i64 c.least,.int .i64 c.most,.int .i64 c.depth,c.u,c.p,c.lv,c.hv,.int .i64 a,.int .i64 fh,.int .i64 fb,.slice (some ⟨nf,0,none⟩) (k+1) (k+1)]⟩:=by rw[<-hV,ext_nil,bk_uw_eq,bk_uw_eq,kY]; rfl
  have kFV:=(mU.bk (by omega) (by simp only[zA4]; omega)).trans kF
  clear hV
  have hnfn:nf≠n:=(lX nf (by rw[ef]; simp[idsV])).2
  have hnf0:H0.next<=nf:=(lX nf (by rw[ef]; simp[idsV])).1
  have mXV:Mod [n] X V:=(mY.mono (by simp)).trans mU
  have okV:=mXV.ok okX
  have vb:V.base<=y+1:=nV▸okV
  have htt:(fs.take (k+1)).take k=fs.take k:=by rw[List.take_take,Nat.min_eq_left (by omega)]
  have htk:(fs.take k).length=k:=by rw[zE1]; omega
  rw[htt]at rcut
  have rV:RdAt V 6 (.slice (some ⟨nf,0,none⟩) k (k+1)) (wfL (fs.take k)) (fs.take k).length:=rcut.of mXV.next fun q hq=>by
   have:=(rcut.ne q hq).2
   refine mXV.get q this ?_
   simp only[zA4]
   rintro rfl
   have:=rdF_ids hq
   simp only[idsV,zA4]at this
   exact hnfn this.symm
  have hone:∀ z∈fs.take k,one z.2=true:=fun z hz=>h1c z (by rw[<-htt]at hz; exact List.mem_of_mem_take hz)
  have hscV:∀ z∈fs.take k,scb (y+1) z.2=true:=fun z hz=>scb_mono (by omega) _ (soX z (by rw[<-htt]at hz; exact List.mem_of_mem_take hz))
  obtain⟨happ,cO,mO,lO⟩:=cl_own nV okV rV hone hscV (by omega)
  obtain⟨aw,haw⟩:=own_sl (y+1) (fs.take k).length
  have oO:=mO.ok okV
  obtain⟨M,hM⟩:=Go.Ax.exq (ownL 149 (wfL (fs.take k)) (fs.take k).length)
  have scO:=cO.sc
  rw[hM]at happ cO mO oO scO
  rw[haw]at happ cO lO scO
  rw[htk]at happ lO cO scO
  have hcutV:∀ L,aSlice Tryz.prog (ext V L) 66 (.slice (some ⟨nf,0,none⟩) (k+1) (k+1)) none (some (.int .i64 (k:Int))) none=some (.slice (some ⟨nf,0,none⟩) k (k+1),ext V L):=fun L=>hcut _ ((ext_get_old (by omega)).trans (mXV.get nf (by omega) (by simp only[zA4]; exact hnfn)))
  have scO2:scb (y+(1+M.length)) (.slice aw k k)=true:=by rw[ext_next,nV,Nat.add_assoc]at scO; exact scO
  rw[show V=ext V [] from rfl]
  generalize hcode:Code.seq (Code.region 6 _ _) _=code
  simp only[g0,nV,ny',kV,hcutV,happ,scO2,qk_old,ruW,putL,Nat.reduceLeDiff,xF,ruU,Nat.reduceLT,Nat.reduceAdd,Nat.reduceEqDiff]
  subst hcode
  have mVU:Mod [n] V (uw V n 10 [.slice aw k k]):=Mod.uw (by simp)
  obtain⟨U,hU⟩:=Go.Ax.exq (uw V n 10 [.slice aw k k])
  rw[hU]at mVU
  have nU:U.next=y+1:=by rw[<-hU,uw_next,nV]
  have okU:=mVU.ok okV
  have kU:bk U n=some ⟨68,false,wkC c.least c.most c.depth c.u c.p c.lv c.hv a fh fb (.slice aw k k)⟩:=by rw[<-hU,bk_uw_eq,kV]; rfl
  have kFU:=(mVU.bk (by omega) (by simp only[zA4]; omega)).trans kFV
  have rU:RdAt U 6 (.slice (some ⟨nf,0,none⟩) k (k+1)) (wfL (fs.take k)) (fs.take k).length:=rV.of mVU.next fun q hq=>by
   have:=(rV.ne q hq).2
   refine mVU.get q this ?_
   simp only[zA4]
   rintro rfl
   have:=rdF_ids hq
   simp only[idsV,zA4]at this
   exact hnfn this.symm
  obtain⟨_,cG,mG,lG⟩:=cl_own nU okU rU hone hscV (by omega)
  rw[hM]at cG mG
  rw[haw,htk]at cG lG
  rw[hU]
  generalize hG:ext U M=G
  rw[hG]at cG mG
  have mXG:Mod [n] X G:=(mXV.trans mVU).trans (mG.mono (by simp))
  have okG:=mXG.ok okX
  have nG:G.next=y+1+M.length:=by rw[<-hG,ext_next,nU]
  have kG:=(mG.bk (by omega) (by simp)).trans kU
  have kFG:=(mG.bk (by omega) (by simp)).trans kFU
  have oldG:Mod [] H0 G:=hwX.old.step mXG hc.ok fun q hq=>.inr (by simp only[zA4]at hq; have:=hwX.lo; omega)
  clear hG hU
  have wG:WkAt H0 c G n a fh fb (fs.take k):=⟨oldG,hwX.lo,by omega,⟨_,kG,cG,fun q hq=>by have:=lG q hq; have:=hwX.old.next; omega⟩,fun z hz=>hwX.mem z (by rw[<-htt]at hz; exact List.mem_of_mem_take hz)⟩
  obtain⟨g,hg⟩:=Go.Ax.exq G.next
  have yg:y+0<g:=by omega
  rw[show G=ext G [] from rfl]
  generalize hcode:Code.seq (Code.block 2 _) _=code
  simp only[ruW,ruU,Nat.reduceLT]
  subst hcode
  refine w_env fun E2 hE2=>?_
  have e0:E2 0=.pointer (some ⟨n,0,none⟩):=by rw[hE2]; simp only[g0,ruU,Nat.reduceEqDiff]
  have e1:E2 1=.int .i64 (m':Int):=by rw[hE2]; simp only[g1,ruU,Nat.reduceEqDiff]
  have e6:E2 6=.pointer (some ⟨y+0,0,none⟩):=by rw[hE2]; rfl
  have e7:E2 7=.int .i64 (-1):=by rw[hE2]; rfl
  clear hE2
  obtain⟨f,hfd⟩:∃ f:Wf,f=⟨⟨pos,op,args⟩,fh,fb,fc⟩:=⟨_,rfl⟩
  rw[w_seq,w_block]
  refine blockC_meet (fun E' X'=>∃ fs2:List Wv,lvF fs k (f,.slice a1 args.length c1) fs2/\WkAt H0 c X' n a fh fb fs2/\X'.base<=X'.next/\E' 0=.pointer (some ⟨n,0,none⟩)/\E' 1=.int .i64 (m':Int)/\E' 7=.int .i64 (lvT f m')) ?_ ?_
  ·have hfk:=hfs k f (by rw[zE5,hf,hfd]; rfl)
   have hwf:WfI ⟨pos,op,args⟩:=by have:=hfk.wf; rw[hfd]at this; exact this
   have hopc:op=16\/op=17\/op=18:=by have:=hfk.op; rw[hfd]at this; exact this
   have hl0:0<args.length:=hwf.pos (by simp only; omega)
   have hT:∀ i:Decidable True,@decide True i=true:=fun i=>by simp
   have hF:∀ i:Decidable False,@decide False i=false:=fun i=>by simp
   have havG:RdAt G 1 (.slice a1 args.length c1) (iv args) args.length:=(hc.ins.av _ hmem).mod0 oldG
   cases fc with
   |true =>
    simp only[e6,hg,yg,kFG,qk_old,ruW,xF,ruU,Nat.reduceLT,Nat.reduceAdd]
    refine joinR_normal ⟨fs.take k,.inl ⟨rfl,.inl (by rw[hfd])⟩,wG,okG,?_,?_,?_⟩
    ·exact e0
    ·exact e1
    ·rw[hfd]; simp only[e7,ruU,Nat.reduceEqDiff]; rfl
   |false =>
    obtain⟨na,offa,sa,ca,ea,oa,Ma,eqa,lna,rka,mka⟩:=havG.one hl0
    have eqa2:=eqa
    simp only[Value.slice.injEq,true_and]at eqa2
    obtain⟨rfl,rfl⟩:=eqa2
    rw[iv_get,zA5 hl0,zA6]at mka
    have hga:args.getD 0 0=args[0]:=by rw[zA9,zA5 hl0]; rfl
    have i0:aIndexAddr Tryz.prog 35 (.slice (some ⟨na,offa,sa⟩) args.length c1) (.int .i64 0)=some (.pointer (some ⟨na,offa+0,none⟩)):=ia_of (i:=0) u35 s3 hl0
    rw[hg]at lna
    have hx0:0<=args[0]:=(hwf.2.2.2 _ (zF4 hl0)).1
    obtain⟨A0,hA0⟩:=Go.Ax.exq (args[0])
    rw[hA0]at mka hga hx0
    have hlv:lvT f m'=if op=18 then A0 else if op=16/\m' % 2=0 then A0 else if op=17/\m' % 3≠0/\0<A0 then args.getD (2+2*(m' % A0.toNat)) 0 else -1:=by
     rw[hfd,lvT,if_neg (by simp),hga]
    rcases hopc with rfl|rfl|rfl
    ·obtain⟨d,hdd⟩:=Go.Ax.exq (decide (((m' % 2:Nat):Int)=0))
     have ht2:((m':Int)).tmod 2=((m' % 2:Nat):Int):=tmod_nat m' 2
     rw[if_neg (by decide)]at hlv
     simp only[Int.reduceEq,e1,e6,hg,yg,kFG,hT,hF,ht2,hdd,qk_old,ruW,xF,ruU,Nat.reduceLT,Nat.reduceAdd,Nat.reduceEqDiff]
     cases d with
     |true =>
      have h2:=of_decide_eq_true hdd
      rw[if_pos ⟨rfl,by omega⟩]at hlv
      simp only[e6,hg,yg,kFG,i0,lna,rka,mka,qk_old,ruW,xF,ruU,Nat.reduceLT,Nat.reduceAdd,Nat.reduceEqDiff]
      refine joinR_normal ⟨fs.take k,.inl ⟨rfl,.inr (by rw[hfd]; show (16:Int)≠18; decide)⟩,wG,okG,?_,?_,?_⟩
      ·exact e0
      ·exact e1
      ·rw[hlv]; simp only[ruU]
     |false =>
      have h2:=of_decide_eq_false hdd
      rw[if_neg (fun h=>h2 (by omega)),if_neg (fun h=>absurd h.1 (by decide))]at hlv
      simp only[Int.reduceEq,e6,hg,yg,kFG,hF,qk_old,ruW,xF,ruU,Nat.reduceLT,Nat.reduceAdd,Nat.reduceEqDiff]
      refine joinR_normal ⟨fs.take k,.inl ⟨rfl,.inr (by rw[hfd]; show (16:Int)≠18; decide)⟩,wG,okG,?_,?_,?_⟩
      ·exact e0
      ·exact e1
      ·rw[hlv]; simp only[e7,ruU,Nat.reduceEqDiff]
    ·obtain⟨d,hdd⟩:=Go.Ax.exq (decide (¬((m' % 3:Nat):Int)=0))
     obtain⟨d1,hd1⟩:∃ d,decide (0<A0)=d:=⟨_,rfl⟩
     have ht3:((m':Int)).tmod 3=((m' % 3:Nat):Int):=tmod_nat m' 3
     rw[if_neg (by decide),if_neg (fun h=>absurd h.1 (by decide))]at hlv
     cases d with
     |false =>
      have h2:=of_decide_eq_false hdd
      rw[if_neg (fun h=>h2 (by omega))]at hlv
      simp only[Int.reduceEq,e1,e6,hg,yg,kFG,hT,hF,ht3,hdd,qk_old,ruW,xF,ruU,Nat.reduceLT,Nat.reduceAdd,Nat.reduceEqDiff]
      refine joinR_normal ⟨fs.take k,.inl ⟨rfl,.inr (by rw[hfd]; show (17:Int)≠18; decide)⟩,wG,okG,?_,?_,?_⟩
      ·exact e0
      ·exact e1
      ·rw[hlv]; simp only[e7,ruU,Nat.reduceEqDiff]
     |true =>
      have h2:=of_decide_eq_true hdd
      cases d1 with
      |false =>
       have h3:=of_decide_eq_false hd1
       rw[if_neg (fun h=>h3 h.2.2)]at hlv
       simp only[Int.reduceEq,e1,e6,hg,yg,kFG,hT,hF,ht3,hdd,hd1,i0,lna,rka,mka,qk_old,ruW,xF,ruU,Nat.reduceLT,Nat.reduceAdd,Nat.reduceEqDiff]
       refine joinR_normal ⟨fs.take k,.inl ⟨rfl,.inr (by rw[hfd]; show (17:Int)≠18; decide)⟩,wG,okG,?_,?_,?_⟩
       ·exact e0
       ·exact e1
       ·rw[hlv]; simp only[e7,ruU,Nat.reduceEqDiff]
      |true =>
       have h3:=of_decide_eq_true hd1
       rw[if_pos ⟨rfl,by omega,h3⟩]at hlv
       simp only[Int.reduceEq,e1,e6,hg,yg,kFG,hT,hF,ht3,hdd,hd1,i0,lna,rka,mka,qk_old,ruW,xF,ruU,Nat.reduceLT,Nat.reduceAdd,Nat.reduceEqDiff]
       obtain⟨hn17,hl17⟩:=guard_args hwf rfl
       simp only at hl17
       rw[hga]at hl17
       have hA0n:((A0.toNat:Nat):Int)=A0:=Int.toNat_of_nonneg (by omega)
       obtain⟨An,hAn⟩:=Go.Ax.exq A0.toNat
       rw[hAn]at hl17 hA0n hlv
       have hAn0:0<An:=by omega
       have hmod:m' % An<An:=Nat.mod_lt _ hAn0
       obtain⟨r,hr⟩:=Go.Ax.exq (m' % An)
       rw[hr]at hlv hmod
       have hrm:regBin Tryz.prog .rem 3 (.int .i64 (m':Int)) (.int .i64 A0)=some (.int .i64 (r:Int)):=by
        rw[reg_rem (by omega),<-hA0n,tmod_nat,hr]
       have hAl:A0<=65535:=by rw[<-hA0]; exact (hwf.2.2.2 _ (zF4 hl0)).2
       have hw2:IntKind.i64.wrap (2*(r:Int))=((2*r:Nat):Int):=by
        have:=wrap_sm (n:=2*(r:Int)) (by omega) (by omega)
        exact this.trans (by omega)
       have hw3:IntKind.i64.wrap (2+((2*r:Nat):Int))=((2+2*r:Nat):Int):=by
        have:=wrap_sm (n:=2+((2*r:Nat):Int)) (by omega) (by omega)
        exact this.trans (by omega)
       have hlr:2+2*r<args.length:=by omega
       have hgr:args.getD (2+2*r) 0=args[2+2*r]:=by rw[zA9,zA5 hlr]; rfl
       have ir:aIndexAddr Tryz.prog 35 (.slice (some ⟨na,offa,sa⟩) args.length c1) (.int .i64 ((2+2*r:Nat):Int))=some (.pointer (some ⟨na,offa+(2+2*r)*1,none⟩)):=ia_of u35 s3 hlr
       rw[zD0]at ir
       obtain⟨na',offa',sa',ca',ea',oa',Ma',eqa',lna',rka',mkr⟩:=havG.one hlr
       simp only[Value.slice.injEq,true_and,Option.some.injEq,Addr.mk.injEq]at eqa'
       obtain⟨⟨rfl,rfl,rfl⟩,rfl⟩:=eqa'
       rw[rka]at rka'
       simp only[Option.some.injEq,Bl.mk.injEq]at rka'
       obtain⟨rfl,rfl,rfl⟩:=rka'
       rw[iv_get,zA5 hlr,zA6]at mkr
       rw[hgr]at hlv
       obtain⟨ir2,hir2⟩:∃ q,2+2*r=q:=⟨_,rfl⟩
       rw[hir2]at hw3 ir
       simp only[hir2]at mkr hlv
       refine w_drawB [] [] (by kernel_rfl) (by kernel_rfl) rfl fun ops anc hA hG=>?_
       simp only[e1,e6,hg,yg,kFG,i0,lna,rka,mka,hrm,hw2,hw3,ir,mkr,qk_old,ruD,ruW,xF,ruU,Nat.reduceLT,Nat.reduceAdd,Nat.reduceEqDiff]
       refine joinR_normal ⟨fs.take k,.inl ⟨rfl,.inr (by rw[hfd]; show (17:Int)≠18; decide)⟩,wG,okG,?_,?_,?_⟩
       ·exact e0
       ·exact e1
       ·rw[hlv]; simp only[ruU]
    ·rw[if_pos rfl]at hlv
     simp only[e6,hg,yg,kFG,hT,qk_old,ruW,putL,Nat.reduceLeDiff,xF,ruU,Nat.reduceLT,Nat.reduceAdd,Nat.reduceEqDiff]
     have m2:Mod [y+0] G (ext (uw G (y+0) 5 [.bool true]) []):=by rw[ext_nil]; exact Mod.uw (by simp)
     generalize hG2:ext (uw G (y+0) 5 [.bool true]) []=G2
     rw[hG2]at m2
     have nG2:G2.next=g:=by rw[<-hG2,ext_nil,uw_next,hg]
     have kF2:bk G2 (y+0)=some ⟨149,false,[.int .i64 pos,.int .i64 18,.slice (some ⟨na,offa,sa⟩) args.length c1,.int .i64 fh,.int .i64 fb,.bool true]⟩:=by rw[<-hG2,ext_nil,bk_uw_eq,kFG]; rfl
     clear hG2
     have kG2:=(m2.bk (by omega) (by simp only[zA4]; omega)).trans kG
     unfold wkC at kG2
     have ok2:=m2.ok okG
     have cG2:ClW G2 (.slice aw k k) (fs.take k):=cG.mod m2 fun q hq=>by
      have:=lG q hq
      simp only[zA4]
      omega
     have old2:Mod [] H0 G2:=oldG.step m2 hc.ok fun q hq=>.inr (by simp only[zA4]at hq; have:=hwX.old.next; omega)
     have sa2:scb g (.slice (some ⟨na,offa,sa⟩) args.length c1)=true:=scb_mono (by omega) _ sf
     have ng:n<g:=by omega
     have nny:¬y+0=n:=by omega
     rw[show G2=ext G2 [] from rfl]
     refine w_drawB [(7,4),(7,5),(7,6),(10,4),(10,5),(10,6),(10,7)] [] (by kernel_rfl) (by kernel_rfl) rfl fun ops anc hA hG=>?_
     simp only[all2_cons]at hA
     simp only[e0,e6,nG2,yg,ng,kF2,kG2,sa2,qk_old,ruD,ruW,Nat.reduceLeDiff,xF,ruU,Nat.reduceLT,Nat.reduceAdd,Nat.reduceEqDiff]
     generalize hK:ext G2 _=K
     have mK:Mod [] G2 K:=hK▸Mod.ext ok2
     have nK:K.next=g+1:=by rw[<-hK,ext_next,nG2]; rfl
     have kN:bk K (g+0)=some ⟨149,false,[.int .i64 pos,.int .i64 18,.slice (some ⟨na,offa,sa⟩) args.length c1,.int .i64 fh,.int .i64 fb,.bool true]⟩:=by rw[<-hK,bk_at nG2 (by simp)]; rfl
     clear hK
     have okK:=mK.ok ok2
     have cK:=cG2.mod0 mK
     have scK:∀ z∈fs.take k++[({f with c:=true},.slice (some ⟨na,offa,sa⟩) args.length c1)],scb K.next z.2=true:=fun z hz=>by
      rcases zB7.1 hz with hz|hz
      ·exact scb_mono (by omega) _ (hscV z hz)
      ·rw[zA4]at hz
       subst hz
       exact scb_mono (by omega) _ sa2
     refine wd_appC (v:=.slice aw k k) (n:=g+0) (fs:=fs.take k) (f:=({f with c:=true},.slice (some ⟨na,offa,sa⟩) args.length c1)) rfl rfl (by decide) cK (by rw[kN,hfd]; rfl) (by omega) (by omega) rfl scK okK (by simp only[all2_cons,all2_nil,hA,true_or,and_true]) fun Z D cZ mZ hD nZ=>?_
     rw[htk,nK]at cZ ⊢
     rw[nK]at nZ
     have hidw:∀ q∈idsV (.slice aw k k),y+1<=q:=lG
     have kZ:=(mZ.bk (by omega) (fun h=>by have:=hidw _ h; omega)).trans ((mK.bk (by omega) (by simp)).trans kG2)
     have kFZ:=(mZ.bk (by omega) (fun h=>by have:=hidw _ h; omega)).trans ((mK.bk (by omega) (by simp)).trans kF2)
     have okZ:=mZ.ok okK
     have nZ2:Z.next=g+2:=nZ
     have ng2:n<g+2:=by omega
     have yg2:y+0<g+2:=by omega
     have sZ:scb (g+2) (.slice (some ⟨g+1,0,none⟩) (k+1) (k+1))=true:=by simp only[scb]; exact blt_of (by omega)
     rw[show Z=ext Z [] from rfl]
     generalize hcode:Code.region 11 _ _=code
     simp only[nZ2,ng2,kZ,sZ,hA,ruD,ruW,putL,Nat.reduceLeDiff,xF,ruU,Nat.reduceLT,Nat.reduceAdd,Nat.reduceEqDiff]
     subst hcode
     refine⟨⟨.inr (by omega),.inr (by omega)⟩,⟨.inr (by omega),.inr (by omega)⟩,?_⟩
     have m3:Mod [n] Z (ext (uw Z n 10 [.slice (some ⟨g+1,0,none⟩) (k+1) (k+1)]) []):=by rw[ext_nil]; exact Mod.uw (by simp)
     generalize hY3:ext (uw Z _ _ _) []=Y3
     rw[hY3]at m3
     have nY3:Y3.next=g+2:=by rw[<-hY3,ext_nil,uw_next,nZ2]
     have k3:bk Y3 n=some ⟨68,false,wkC c.least c.most c.depth c.u c.p c.lv c.hv a fh fb (.slice (some ⟨g+1,0,none⟩) (k+1) (k+1))⟩:=by rw[<-hY3,ext_nil,bk_uw_eq,kZ]; rfl
     clear hY3
     have ok3:=m3.ok okZ
     have kF3:=(m3.bk (by omega) (by simp only[zA4]; omega)).trans kFZ
     have old3:Mod [] H0 Y3:=(((old2.trans mK).step mZ hc.ok fun q hq=>.inr (by have:=hidw _ hq; have:=hwX.old.next; omega)).step m3 hc.ok fun q hq=>.inr (by simp only[zA4]at hq; have:=hwX.lo; omega))
     have c3:=cZ.mod m3 fun q hq=>by
      simp only[idsV,zA4]at hq
      simp only[zA4]
      omega
     have w3:WkAt H0 c Y3 n a fh fb (fs.take k++[({f with c:=true},.slice (some ⟨na,offa,sa⟩) args.length c1)]):=⟨old3,hwX.lo,by omega,⟨_,k3,c3,fun q hq=>by
      simp only[idsV,zA4]at hq
      have:=hwX.old.next
      omega⟩,fun z hz=>by
      rcases zB7.1 hz with hz|hz
      ·exact wG.mem z hz
      ·rw[zA4]at hz
       subst hz
       rw[hfd]
       exact hmem⟩
     have lna3:na<g+2:=by omega
     have rka3:rk Y3 na=some ⟨ea,oa,Ma⟩:=by
      obtain⟨q1,q2,q3,q4,q5,q6,q7,q8,q9,q10,q11⟩:=RdAt.one ((hc.ins.av _ hmem).mod0 old3) hl0
      have q8':=q8
      simp only[Value.slice.injEq,true_and,Option.some.injEq,Addr.mk.injEq]at q8'
      obtain⟨⟨rfl,rfl,rfl⟩,rfl⟩:=q8'
      have hh:rk H0 na=some ⟨ea,oa,Ma⟩:=by
       obtain⟨r1,r2,r3,r4,r5,r6,r7,r8,r9,r10,r11⟩:=RdAt.one (hc.ins.av _ hmem) hl0
       simp only[Value.slice.injEq,true_and,Option.some.injEq,Addr.mk.injEq]at r8
       obtain⟨⟨rfl,rfl,rfl⟩,rfl⟩:=r8
       rw[<-rka]
       exact (rk_get (oldG.get na r9 (by simp))).symm
      obtain⟨r1,r2,r3,r4,r5,r6,r7,r8,r9,r10,r11⟩:=RdAt.one (hc.ins.av _ hmem) hl0
      simp only[Value.slice.injEq,true_and,Option.some.injEq,Addr.mk.injEq]at r8
      obtain⟨⟨rfl,rfl,rfl⟩,rfl⟩:=r8
      exact (rk_get (old3.get na r9 (by simp))).trans hh
     rw[show Y3=ext Y3 [] from rfl]
     simp only[e6,nY3,yg2,kF3,i0,lna3,rka3,mka,qk_old,ruW,xF,ruU,Nat.reduceLT,Nat.reduceAdd,Nat.reduceEqDiff]
     refine joinR_normal ⟨_,.inr ⟨rfl,by rw[hfd],by rw[hfd]⟩,w3,ok3,?_,?_,?_⟩
     ·exact e0
     ·exact e1
     ·rw[hlv]; simp only[ruU]
  ·clear e0 e1 e6 e7 E2
   rintro E3 X3 ⟨fs2,hf2,w3,ok3,e0,e1,e7⟩
   have hfk:=hfs k f (by rw[zE5,hf,hfd]; rfl)
   have ht3:((m':Int)).tdiv 3=((m' / 3:Nat):Int):=tdiv_nat m' 3
   have hwt:IntKind.i64.wrap ((m' / 3:Nat):Int)=((m' / 3:Nat):Int):=wrap_sm (by omega) (by omega)
   have hq:∀ G:AHeap,aBin Tryz.prog G .quo 3 (.int .i64 (m':Int)) (.int .i64 3)=some (.int .i64 ((m' / 3:Nat):Int)):=fun G=>by rw[bin_quo (by decide),ht3,hwt]
   have hstep:leavesP (c.ls.map (·.1)) (fs.map (·.1)) (k+1) m'=if lvT f m'<0 then leavesP (c.ls.map (·.1)) (fs.map (·.1)) k (m' / 3) else some ⟨(findR (c.ls.map (·.1)) (lvT f m')).toNat,f.h+1,f.b,(fs.map (·.1)).take k++(if f.x.op=18 then [{f with c:=true}] else [])⟩:=by
    rw[leavesP,zE5,hf,zA6,hfd]
   have hlvm:=lv_mem hfk m'
   have h18:f.c=false->f.x.op=18->0<=lvT f m':=fun h1 h2=>by
    rw[lvT,if_neg (by rw[h1]; simp),if_pos h2]
    exact (hfk.wf.fst (hfk.wf.pos (by omega))).1
   obtain⟨T,hT⟩:=Go.Ax.exq (lvT f m')
   rw[hT]at hstep hlvm h18
   rw[hT]at e7
   obtain⟨fv3,k3,c3,l3⟩:=w3.bk
   obtain⟨z,hz⟩:=Go.Ax.exq X3.next
   have zb:X3.base<=z:=hz▸ok3
   have nz:n<z:=hz▸w3.lt
   have hfb:=hfk.h
   rw[hfd]at hfb
   simp only at hfb
   have hwh:IntKind.i64.wrap (fh+1)=fh+1:=wrap_sm (by omega) (by omega)
   obtain⟨d,hd⟩:=Go.Ax.exq (decide (0<=T))
   obtain⟨a3,ea3⟩:=c3.sl
   have k3':=k3
   unfold wkC at k3'
   rw[ea3]at k3'
   rw[show X3=ext X3 [] from rfl]
   cases d with
   |false =>
    simp only[e1,e7,hq,hd,ruW,ruU,Nat.reduceLT,Nat.reduceEqDiff]
    have hTn:T<0:=by have:=of_decide_eq_false hd; omega
    rw[if_pos hTn]at hstep
    have hfs2:fs2=fs.take k:=by
     rcases hf2 with⟨h,_⟩|⟨_,h1,h2⟩
     ·exact h
     ·have:=h18 h1 h2
      omega
    subst hfs2
    refine loopC_next ⟨(k,m' / 3,fh,fb),zC4 k,by simp only; omega,by simp only; omega,hstep.symm.trans hlv,w3,ok3,?_,?_⟩
    ·exact e0
    ·rfl
   |true =>
    have hTn:0<=T:=of_decide_eq_true hd
    rw[if_neg (by omega)]at hstep
    simp only[e0,e1,e7,hz,nz,hq,hd,hwh,k3',qk_old,ruW,putL,Nat.reduceLeDiff,xF,ruU,Nat.reduceLT,Nat.reduceAdd,Nat.reduceEqDiff]
    have mW:Mod [n] X3 (ext (uw X3 n 8 [.int .i64 (fh+1)]) []):=by rw[ext_nil]; exact Mod.uw (by simp)
    generalize hW:ext (uw X3 _ _ _) []=W
    rw[hW]at mW
    have nW:W.next=z:=by rw[<-hW,ext_nil,uw_next,hz]
    have kW:bk W n=some ⟨68,false,wkC c.least c.most c.depth c.u c.p c.lv c.hv a (fh+1) fb (.slice a3 fs2.length fs2.length)⟩:=by rw[<-hW,ext_nil,bk_uw_eq,k3,ea3]; rfl
    clear hW
    have okW:=mW.ok ok3
    have hlo:∀ q,q∈[n]->q∈([]:List Nat)\/H0.next<=q:=fun q hq=>.inr (by simp only[zA4]at hq; have:=hwX.lo; omega)
    have oldW:Mod [] H0 W:=w3.old.step mW hc.ok hlo
    refine (goes64_c W n c.least c.most c.depth c.u c.p c.lv c.hv (.slice a3 fs2.length fs2.length) a (fh+1) fb T c.ls kW (by omega) (hc.ins.mod0 oldW) (by have:=hc.len; omega) okW).mono ?_
    rintro _ F ⟨rfl,mF,kF'⟩
    rw[show F=ext F [] from rfl]
    simp only[Tryz.results62,ruW,ruU,Nat.reduceLT]
    rw[ext_nil]
    have oldF:Mod [] H0 F:=oldW.step mF hc.ok hlo
    refine⟨oldF,_,rfl,fun hr=>?_⟩
    have hr0:=of_decide_eq_true hr
    refine⟨_,fs2,hlv.symm.trans hstep,⟨oldF,hwX.lo,?_,⟨_,?_,(c3.mod mW fun q hq=>by simp only[zA4]; exact (l3 q hq).2).mod mF fun q hq=>by simp only[zA4]; exact (l3 q hq).2,l3⟩,w3.mem⟩,?_,?_⟩
    ·have:=mF.next; omega
    ·rw[kF',hfd,ea3]
     simp only
     rw[Int.toNat_of_nonneg hr0]
    ·rw[<-List.map_take]
     rcases hf2 with⟨h,h2⟩|⟨h,h1,h2⟩
     ·have hno:¬f.x.op=18:=fun h3=>by
       rcases h2 with h2|h2
       ·rcases hlvm with h4|⟨h4,_⟩
        ·omega
        ·have h2':f.c=true:=h2
         rw[h4]at h2'
         cases h2'
       ·exact h2 h3
      rw[h,if_neg hno,zE2]
     ·have h2':f.x.op=18:=h2
      rw[h,if_pos h2',zF5]
      rfl
    ·rcases hf2 with⟨h,_⟩|⟨h,_⟩
     ·rw[h]; omega
     ·rw[h,zC6]; simp only[zC7]; omega
set_option maxRecDepth 100000
theorem cl_cop {X:AHeap} {m:Nat} {v:Value} {fs:List Wv} (h:ClW X v fs) (hm:bk X m=some ⟨149,false,[]⟩) (hmn:m<X.next) (hok:X.base<=X.next) (hone:∀ x∈fs,one x.2=true) (hsc:∀ x∈fs,scb X.next x.2=true) (hl:fs.length<=1000000) :
  ∃ G w,aBuiltin Tryz.prog X .append ⟨[66,66]⟩ [.slice (some ⟨m,0,some 0⟩) 0 0,v]=some (w,G)/\ClW G w fs/\Mod [m] X G/\X.next<=G.next/\∀ q∈idsV w,q=m\/q=X.next/\q<G.next:=by
 have hsm:small fs.length 64=true:=by simp only[small,zA7,zD9]; omega
 by_cases h0:fs=[]
 ·subst h0
  obtain⟨a,c,rfl⟩:∃ a c,v=.slice a 0 c:=by
   obtain⟨a,e⟩:=h.sl
   exact⟨a,_,e⟩
  unfold bk at hm
  rw[zB2]at hm
  obtain⟨⟨cc,e,o⟩,hcell,he⟩:=hm
  simp only[Bl.mk.injEq]at he
  obtain⟨rfl,rfl,_⟩:=he
  have hwr:aWrite X m (0+0*6) []=some (X.upd m (some ⟨.cells #[] 149,false,cc.sets (0+0*6) []⟩)):=by
   simp only[aWrite,hcell,zA1,zA3]
   rw[if_pos]
   simp[scbL]
  have hf:firstC X 6 0 (.slice a 0 c)=some []:=by cases a<;>simp[firstC]
  refine⟨X.upd m (some ⟨.cells #[] 149,false,cc.sets (0+0*6) []⟩),.slice (some ⟨m,0,some 0⟩) 0 0,?_,.inr ⟨rfl,m,rfl,hmn,?_⟩,Mod.upd (zA4.2 rfl),zB1 _,fun q hq=>.inl (by simpa[idsV]using hq)⟩
  ·have hzl:(Value.agg #[.int .i64 0,.int .i64 0,.slice none 0 0,.int .i64 0,.int .i64 0,.bool false]).cells.toList.length=6:=rfl
   simp only[zC5]at hsm
   simp only[aBuiltin,aAppend,u66,s149,by149,z149,i66,zA1,zA3,lenV,hf,zC5,Nat.zero_mul,hzl,zC3,hsm,and_self,if_true,aAppend2,zB1]at hwr ⊢
   rw[hwr]
   rfl
  ·rw[AHeap.get_upd,if_pos rfl]
   simp
 ·rcases h with⟨h1,h2,⟨h3,_⟩|⟨h3,n,rfl,hb,hlt⟩⟩|⟨h3,_⟩
  ·exact absurd (zE7 h3) h0
  ·have hA:=app_ex0 (X:=X) (st:=66) (n:=n) (off:=0) (cnt:=fs.length) (cap:=fs.length) (m:=m) (s:=none) (bl:=⟨149,true,wfL fs⟩) (ws:=wfL fs) u66 s149 by149 z149 rfl i66 (rk_of hb) (by rw[h1]; omega) (by rw[zF0,<-h1,List.take_length]) h3 h2 (wfL_sc hsc) hsm
   refine⟨_,_,hA,.inl ⟨h1,h2,.inr ⟨h3,X.next,rfl,?_,?_⟩⟩,Mod.ext hok,?_,fun q hq=>.inr ?_⟩
   ·rw[show X.next=X.next+0 from rfl,bk_at rfl (by simp)]
    rfl
   ·rw[ext_next]; simp
   ·rw[ext_next]; simp
   ·simp only[idsV,zA4]at hq
    rw[ext_next]
    exact⟨hq,by simp[hq]⟩
  ·exact absurd h3 h0
theorem wd_cop {H:AHeap} {N:Nat} {E:Env} {ds:List Deferred} {ops:Array Oper} {anc:List Nat} {rest:List Oper} {d i:Nat} {fps:List Fp} {ty:TypeId} {pos:String} {after:Array Edge} {Q:AAct->AHeap->Prop} {args:List Operand} {m:Nat} {v:Value} {fs:List Wv}
  (ha:args.all (opOk Tryz.prog N)=true) (hargs:args.map (opv E)=[.slice (some ⟨m,0,some 0⟩) 0 0,v]) (hd:d<N)
  (h:ClW H v fs) (hm0:bk H m=some ⟨149,false,[]⟩) (hmn:m<H.next) (hl:fs.length<=1000000) (hone:∀ x∈fs,one x.2=true) (hsc:∀ x∈fs,scb H.next x.2=true) (hok:H.base<=H.next)
  (hm:∀ r∈fps,(anc.getD i 0).testBit r.i=true\/(r.hi<=r.lo/\(∀ k∈r.W,k∉m::idsV v)/\(∀ k∈r.F,k∉[m])))
  (hk:∀ Z D w hi,ClW Z w fs->Mod [m] H Z->(∀ k∈D,k∈[m])->Z.next=hi->H.next<=hi->(∀ q∈idsV w,q=m\/q=H.next) ->
   wkD Tryz.prog ops anc rest (i+1) (⟨i,m::idsV v,D,H.next,hi⟩::fps) (mkA N (upd E d w) ds) Z Q) :
  wkD Tryz.prog ops anc (⟨some d,.call ⟨.builtin .append,⟨args⟩,⟨[66,66]⟩⟩,ty,pos,after,none⟩::rest) i fps (mkA N E ds) H Q:=by
 rw[wd_app ha]
 have hF:∀ k∈m::idsV v,H.get k≠none/\k<H.next:=fun k hk=>by
  rcases zB0.1 hk with rfl|hk
  ·exact⟨bk_ne hm0,hmn⟩
  ·exact h.ne k hk
 have hrn:=restrict_next H (m::idsV v)
 have hv:=h.of (G:=H.restrict (m::idsV v)) (zF1 hrn.1.symm) (fun k hk=>by rw[restrict_get,if_pos (by simp[hk])])
 obtain⟨G,w,k1,k2,k3,k4,k5⟩:=cl_cop (m:=m) hv ((bk_get (by rw[restrict_get,if_pos (by simp)])).trans hm0) (by rw[hrn.1]; exact hmn) (by rw[hrn.1,hrn.2.1]; exact zB1 _) hone (by rw[hrn.1]; exact hsc) hl
 rw[hrn.1]at k4 k5
 refine genV_modO (H:=H) (W:=[m]) (m::idsV v) hok (fun k hk=>(hF k hk).1) (fun k hk=>(hF k hk).2) (fun k hk=>by simp only[zA4]at hk; simp[hk]) (app_op (v:=_) (G:=G) ha (by rw[hargs]; exact k1)) k3 hm fun Z D mZ hFZ hNZ hnZ hDZ=>?_
 have:=hk Z D w G.next ?_ mZ hDZ hnZ k4 (fun q hq=>(k5 q hq).imp id And.left)
 ·simp only[put_some N E ds d _ hd]
  exact this
 ·refine k2.of (by omega) fun q hq=>?_
  rcases k5 q hq with rfl|⟨rfl,hlt⟩
  ·exact hFZ _ (by simp)
  ·exact hNZ _ (zB1 _) hlt
theorem WkAt.mod0 {H0 H X:AHeap} {c:Wc} {n:Nat} {a h b:Int} {fs:List Wv} (w:WkAt H0 c H n a h b fs) (m:Mod [] H X):WkAt H0 c X n a h b fs:=by
 obtain⟨fv,k,cl,l⟩:=w.bk
 exact⟨w.old.trans m,w.lo,zD2 w.lt m.next,⟨fv,(m.bk w.lt (by simp)).trans k,cl.mod0 m,l⟩,w.mem⟩
theorem WkAt.upd {H0 H X:AHeap} {c:Wc} (hc:WcOk H0 c) {n:Nat} {a h b a' h' b':Int} {fs:List Wv} {fv:Value} (w:WkAt H0 c H n a h b fs) (cl:ClW H fv fs) (l:∀ k∈idsV fv,H0.next<=k/\k≠n) (m:Mod [n] H X) (hk:Go.Ax.bk X n=some ⟨68,false,wkC c.least c.most c.depth c.u c.p c.lv c.hv a' h' b' fv⟩):WkAt H0 c X n a' h' b' fs :=
 ⟨w.old.step m hc.ok fun q hq=>.inr (by simp only[zA4]at hq; have:=w.lo; omega),w.lo,zD2 w.lt m.next,⟨fv,hk,cl.mod m fun q hq=>by simp only[zA4]; exact (l q hq).2,l⟩,w.mem⟩
theorem changes63_c (H0:AHeap) (c:Wc) (hc:WcOk H0 c) (ks:Ks) (H:AHeap) (n:Nat) (a h b:Int) (fs:List Wv) (pos:Int) (op:Nat) (args:List Int) (av:Value) (hw:WkAt H0 c H n a h b fs) (hx:((⟨pos,(op:Int),args⟩:Ins),av)∈c.ls) (hfs:FsOk (c.ls.map (·.1)) ks (fs.map (·.1))) (hfl:fs.length<=1000) (hh:0<=h/\h<=100000) (hb:0<=b/\b<=100000)
  (p8:op=8->0<=b-args.getD 0 0/\∀ f,(fs.map (·.1)).getLast?=some f->f.b<=b-args.getD 0 0) (p19:op=19\/op=20->∃ f,(fs.map (·.1)).getLast?=some f/\f.c=decide (op=20)/\h=f.h+1/\b=f.b) (hok:H.base<=H.next) :
  CallA Tryz.prog 63 [.pointer (some ⟨n,0,none⟩),.agg ⟨[.int .i64 pos,.int .i64 (op:Int),av]⟩] H (fun out X=>out=.ok (.bool true)/\Mod [n] H X/\∃ fs':List Wv,WkAt H0 c X n a h (chgB op args b) fs'/\fs'.map (·.1)=chgF ⟨pos,(op:Int),args⟩ h b (fs.map (·.1))/\fs'.length<=fs.length+1):=by
 obtain⟨y,hy⟩:=Go.Ax.exq H.next
 have ny:n<y:=hy▸hw.lt
 have havH:RdAt H 1 av (iv args) args.length:=(hc.ins.av _ hx).mod0 hw.old
 have hav0:RdAt H0 1 av (iv args) args.length:=hc.ins.av _ hx
 have sav:scb y av=true:=hy▸scb_mono hw.old.next _ (hc.ins.sc _ hx)
 have hwf:WfI ⟨pos,(op:Int),args⟩:=(hc.wf _ hx).1
 obtain⟨a1,c1,ea⟩:=havH.sl
 obtain⟨fv,kH,cH,lH⟩:=hw.bk
 obtain⟨f0,ef⟩:=cH.sl
 refine callE_fn mixed Tryz.func63 rfl Tryz.ntmps63 (zB3 rfl) ?_
 have kH0:=kH
 unfold wkC at kH
 rw[ef]at kH
 rw[ea]at sav ⊢
 have hw1:IntKind.i64.wrap ((fs.length:Int)-1)=(fs.length:Int)-1:=wrap_sm (by omega) (by omega)
 generalize hcode:Code.block 0 _=code
 simp only[hy,ny,kH,sav,hw1,qk_old,ruW,xF,ruU,entryE,Nat.reduceLT,Nat.reduceAdd,Nat.reduceEqDiff]
 subst hcode
 generalize hY:ext H _=Y
 have mY:Mod [] H Y:=hY▸Mod.ext hok
 have nY:Y.next=y+1:=by rw[<-hY,ext_next,hy]; rfl
 have kB:bk Y (y+0)=some ⟨59,false,[.int .i64 pos,.int .i64 (op:Int),.slice a1 args.length c1]⟩:=by rw[<-hY,bk_at hy (by simp)]; rfl
 clear hY
 have okY:=mY.ok hok
 have wY:=hw.mod0 mY
 have kY:=(mY.bk (by omega) (by simp)).trans kH
 have kY0:=(mY.bk (by omega) (by simp)).trans kH0
 have cY:=cH.mod0 mY
 have yb':Y.base<=y+1:=nY▸okY
 have ny':n<y+1:=by omega
 have yy':y+0<y+1:=by omega
 have nne:¬n=y+0:=by omega
 have nne2:¬y+0=n:=by omega
 rw[show Y=ext Y [] from rfl]
 refine w_env fun E hE=>?_
 have g0:E 0=.pointer (some ⟨n,0,none⟩):=by rw[hE]; rfl
 have g3:E 3=.pointer (some ⟨y+0,0,none⟩):=by rw[hE]; rfl
 have g5:E 5=.int .i64 ((fs.length:Int)-1):=by rw[hE]; rfl
 have g14:E 14=.int .i64 (op:Int):=by rw[hE]; rfl
 clear hE
 have hT:∀ i:Decidable True,@decide True i=true:=fun i=>by simp
 have hF:∀ i:Decidable False,@decide False i=false:=fun i=>by simp
 have hop:=hwf.2.1
 simp only at hop
 by_cases hrest:op≠7/\op≠8/\op≠16/\op≠17/\op≠18/\op≠19/\op≠20
 ·have e1:chgB op args b=b:=by unfold chgB; rw[if_neg (by omega),if_neg (by omega)]
  have e2:chgF ⟨pos,(op:Int),args⟩ h b (fs.map (·.1))=fs.map (·.1):=by unfold chgF; simp only[zB5]; rw[if_neg (by omega),if_neg (by omega),if_neg (by omega)]
  rw[e1,e2]
  have hcs:op=0\/op=1\/op=2\/op=3\/op=4\/op=5\/op=6\/op=9\/op=10\/op=11\/op=12\/op=13\/op=14\/op=15\/op=21\/op=22\/op=23\/op=24\/op=25\/op=26\/op=27:=by omega
  clear e1 e2 p8 p19
  rcases hcs with rfl|rfl|rfl|rfl|rfl|rfl|rfl|rfl|rfl|rfl|rfl|rfl|rfl|rfl|rfl|rfl|rfl|rfl|rfl|rfl|rfl
  all_goals
   simp only[zB6]at g14
   simp only[Int.reduceEq,g14,hF,Tryz.results63,ruW,ruU,Nat.reduceLT,Nat.reduceEqDiff]
   rw[ext_nil]
   exact⟨trivial,mY.mono (by simp),fs,wY,rfl,by omega⟩
 have hfy:∀ (v:List Value) (off:Nat),Mod [n] Y (ext (uw Y n off v) []):=fun v off=>by rw[ext_nil]; exact Mod.uw (by simp)
 by_cases h7:op=7
 ·subst h7
  have hwb:IntKind.i64.wrap (b+1)=b+1:=wrap_sm (by omega) (by omega)
  simp only[zB6]at g14
  simp only[g0,g14,nY,ny',kY,hwb,hT,Tryz.results63,qk_old,ruW,putL,Nat.reduceLeDiff,xF,ruU,Nat.reduceLT,Nat.reduceAdd,Nat.reduceEqDiff]
  refine⟨trivial,(mY.mono (by simp)).trans (hfy _ _),fs,wY.upd hc cY lH (hfy _ _) ?_,rfl,by omega⟩
  rw[ext_nil,bk_uw_eq,kY0]
  rfl
 by_cases h8:op=8
 ·subst h8
  obtain⟨q1,q2⟩:=p8 rfl
  have hl0:0<args.length:=hwf.pos (by simp only; omega)
  obtain⟨na,offa,sa,ca,ea',oa,Ma,eqa,lna0,rka0,mka⟩:=hav0.one hl0
  have eqa2:=ea.symm.trans eqa
  simp only[Value.slice.injEq,true_and]at eqa2
  obtain⟨rfl,rfl⟩:=eqa2
  have rkO:∀ X,Mod [] H0 X->rk X na=some ⟨ea',oa,Ma⟩:=fun X m=>(rk_get (m.get na lna0 (by simp))).trans rka0
  have hlo:=hw.lo
  have hno:=hw.old.next
  rw[iv_get,zA5 hl0,zA6]at mka
  have hga:args.getD 0 0=args[0]:=by rw[zA9,zA5 hl0]; rfl
  have i0:aIndexAddr Tryz.prog 35 (.slice (some ⟨na,offa,sa⟩) args.length c1) (.int .i64 0)=some (.pointer (some ⟨na,offa+0,none⟩)):=ia_of (i:=0) u35 s3 hl0
  have lna:na<y+1:=by omega
  have hx0:=hwf.2.2.2 _ (zF4 hl0)
  obtain⟨A0,hA0⟩:=Go.Ax.exq (args[0])
  rw[hA0]at mka hga hx0
  rw[hga]at q1 q2
  have hwb:IntKind.i64.wrap (b-A0)=b-A0:=wrap_sm (by omega) (by omega)
  have hd:decide (0<=b-A0)=true:=decide_eq_true q1
  have rkY:=rkO Y wY.old
  simp only[zB6]at g14
  simp only[Int.reduceEq,g14,hT,hF,ruW,ruU,Nat.reduceLT,Nat.reduceEqDiff]
  refine w_drawB [(12,4),(12,6),(12,8)] [] (by kernel_rfl) (by kernel_rfl) rfl fun ops anc hA hG=>?_
  simp only[all2_cons]at hA
  generalize hcode:Code.region 7 _ _=code
  simp only[g0,g3,nY,ny',yy',kY,kB,i0,lna,rkY,mka,hwb,hA,qk_old,ruD,ruW,putL,Nat.reduceLeDiff,xF,ruU,Nat.reduceLT,Nat.reduceAdd,Nat.reduceEqDiff]
  subst hcode
  have mZ:=hfy [.int .i64 (b-A0)] 9
  generalize hZ:ext (uw Y _ _ _) []=Z
  rw[hZ]at mZ
  have nZ:Z.next=y+1:=by rw[<-hZ,ext_nil,uw_next,nY]
  have kZ0:bk Z n=some ⟨68,false,wkC c.least c.most c.depth c.u c.p c.lv c.hv a h (b-A0) fv⟩:=by rw[<-hZ,ext_nil,bk_uw_eq,kY0]; rfl
  clear hZ
  have okZ:=mZ.ok okY
  have cZ:=cY.mod mZ fun q hq=>by simp only[zA4]; exact (lH q hq).2
  have wZ:=wY.upd hc cY lH mZ kZ0
  have kZ:=kZ0
  unfold wkC at kZ
  have hcg:chgB 8 args b=b-A0:=by unfold chgB; rw[if_neg (by decide),if_pos rfl,hga]
  have hch:chgF ⟨pos,((8:Nat):Int),args⟩ h b (fs.map (·.1))=fs.map (·.1):=rfl
  rw[hcg,hch]
  rw[show Z=ext Z [] from rfl]
  refine w_drawB [] [(5,43),(8,46)] (by kernel_rfl) (by kernel_rfl) (by kernel_rfl) fun ops anc hA hG=>?_
  simp only[all2_cons]at hG
  cases hl:(fs.map (·.1)).getLast? with
  |none =>
   rw[List.getLast?_eq_none_iff,List.map_eq_nil_iff]at hl
   have hd2:decide ((fs.length:Int)-1<0)=true:=decide_eq_true (by rw[hl]; decide)
   rw[ef]at kZ
   simp only[g0,g5,nZ,ny',kZ,hd,hd2,hG,Tryz.results63,qk_old,ruD,ruW,xF,ruU,Nat.reduceLT,Nat.reduceAdd,Nat.reduceEqDiff]
   rw[ext_nil]
   exact⟨(mY.mono (by simp)).trans mZ,fs,wZ,rfl,by omega⟩
  |some f =>
   have hle:=q2 f hl
   obtain⟨l1,l2,_⟩:=last_get hl
   rw[zC8]at l1 l2
   rw[zE5,zB2]at l1
   obtain⟨⟨f',fav⟩,l1,rfl⟩:=l1
   obtain⟨nf,ef',lnf,bf,ia,lf,m3,m4,m5⟩:=cZ.one l1
   have hk1:((fs.length-1:Nat):Int)=(fs.length:Int)-1:=by omega
   rw[hk1]at ia
   rw[ef']at kZ ia
   have rf:=rk_of bf
   rw[nZ]at lnf
   have hd2:decide ((fs.length:Int)-1<0)=false:=decide_eq_false (by omega)
   have hd3:decide (f'.b<=b-A0)=true:=decide_eq_true hle
   simp only[g0,g5,nZ,ny',kZ,hd,hd2,hd3,ia,lnf,rf,m4,hG,Tryz.results63,qk_old,ruD,ruW,xF,ruU,Nat.reduceLT,Nat.reduceAdd,Nat.reduceEqDiff]
   rw[ext_nil]
   exact⟨(mY.mono (by simp)).trans mZ,fs,wZ,rfl,by omega⟩
 have hone:∀ z∈fs,one z.2=true:=fun z hz=>RdAt.oneV (hc.ins.av _ (hw.mem z hz))
 have hsc0:∀ z∈fs,scb H0.next z.2=true:=fun z hz=>hc.ins.sc _ (hw.mem z hz)
 have hlo:=hw.lo
 have hno:=hw.old.next
 have hid:∀ q∈idsV fv,q≠n/\q<y:=fun q hq=>⟨(lH q hq).2,hy▸(cH.ne q hq).2⟩
 by_cases h16:op=16\/op=17\/op=18
 ·have hcg:chgB op args b=b:=by unfold chgB; rw[if_neg (by omega),if_neg (by omega)]
  have hch:chgF ⟨pos,(op:Int),args⟩ h b (fs.map (·.1))=(fs++[((⟨⟨pos,(op:Int),args⟩,h,b,false⟩:Wf),Value.slice a1 args.length c1)]).map (·.1):=by
   unfold chgF
   simp only[zB5]
   rw[if_pos (by omega),zF5]
   rfl
  rw[hcg,hch]
  obtain⟨fr,hfr⟩:∃ fr:Wv,fr=((⟨⟨pos,(op:Int),args⟩,h,b,false⟩:Wf),Value.slice a1 args.length c1):=⟨_,rfl⟩
  rw[<-hfr]
  have mY1:Mod [] Y (ext Y [⟨149,false,[]⟩]):=Mod.ext okY
  generalize hY1:ext Y [⟨149,false,[]⟩]=Y1
  rw[hY1]at mY1
  have nY1:Y1.next=y+2:=by rw[<-hY1,ext_next,nY]; rfl
  have bY1:bk Y1 (y+1)=some ⟨149,false,[]⟩:=by rw[<-hY1,show y+1=y+1+0 from rfl,bk_at nY (by simp)]; rfl
  have kY1:=(mY1.bk (by omega) (by simp)).trans kY
  have kB1:=(mY1.bk (by omega) (by simp)).trans kB
  have cY1:=cY.mod0 mY1
  have okY1:=mY1.ok okY
  rcases h16 with rfl|rfl|rfl
  all_goals
   simp only[zB6]at g14 kB kB1
   simp only[Int.reduceEq,g14,hT,hF,ruW,ruU,Nat.reduceLT,Nat.reduceEqDiff]
   refine w_drawB [(6,1),(6,5),(18,1),(18,5),(18,6),(18,7),(18,11),(18,15),(18,17),(21,1),(21,5),(21,6),(21,7),(21,11),(21,15),(21,17),(21,18)] [] (by kernel_rfl) (by kernel_rfl) rfl fun ops anc hA hG=>?_
   simp only[all2_cons]at hA
   simp only[g0,nY,ny',kY,qk_old,ruD,ruW,xF,ruU,Nat.reduceLT,Nat.reduceAdd,Nat.reduceEqDiff]
   refine⟨.inr fun q hq=>.inl (by have:=(hid q (ef▸hq)).2; omega),?_⟩
   rw[hY1]
   refine wd_cop (m:=y+1) (v:=fv) (fs:=fs) rfl (by rw[ef]; simp only[ruU,Nat.reduceEqDiff]) (by decide) cY1 bY1 (by omega) (by omega) hone (fun z hz=>scb_mono (by omega) _ (hsc0 z hz)) okY1 (by simp only[all2_cons,all2_nil,hA,true_or,and_true]) fun Z D w hi cZ mZ hD nZ hhi hidw=>?_
   rw[nY1]at hhi hidw ⊢
   have okZ:=mZ.ok okY1
   have zb:Z.base<=hi:=nZ▸okZ
   have kZ:=(mZ.bk (by omega) (by simp only[zA4]; omega)).trans kY1
   have kBZ:=(mZ.bk (by omega) (by simp only[zA4]; omega)).trans kB1
   have zn:n<hi:=by omega
   have zy:y+0<hi:=by omega
   have savZ:scb hi (.slice a1 args.length c1)=true:=scb_mono (by omega) _ sav
   have hDm:∀ q∈D,q=y+1:=fun q hq=>by simpa using hD q hq
   rw[show Z=ext Z [] from rfl]
   simp only[g0,g3,nZ,zn,zy,kZ,kBZ,savZ,qk_old,ruD,ruW,Nat.reduceLeDiff,xF,ruU,Nat.reduceLT,Nat.reduceAdd,Nat.reduceEqDiff]
   have hia:∀ q∈idsV (.slice a1 args.length c1),q<y:=ids_of_scb _ sav
   have t1:n<y+1:=ny'
   have t2:n<y+2:=by omega
   have t3:∀ q,q∈idsV (.slice a1 args.length c1)++[]->q<y+2\/hi<=q:=fun q hq=>.inl (by rw[zE2]at hq; have:=hia q hq; omega)
   have t4:∀ q,q∈idsV (.slice a1 args.length c1)++[]->q<y+1\/y+2<=q:=fun q hq=>.inl (by rw[zE2]at hq; have:=hia q hq; omega)
   have t5:∀ q,q∈D->¬q=y+0:=fun q hq=>by have:=hDm q hq; omega
   have t6:∀ q,q∈D->¬q=n:=fun q hq=>by have:=hDm q hq; omega
   have t7:∀ q,q∈idsV (.slice (some ⟨hi+0,0,some 0⟩) 1 1)++(idsV (.slice a1 args.length c1)++[])->q<y+2\/hi<=q:=fun q hq=>by
    rcases zB7.1 hq with hq|hq
    ·simp only[idsV,zA4]at hq; omega
    ·exact t3 q hq
   have t8:∀ q,q∈idsV (.slice (some ⟨hi+0,0,some 0⟩) 1 1)++(idsV (.slice a1 args.length c1)++[])->q<y+1\/y+2<=q:=fun q hq=>by
    rcases zB7.1 hq with hq|hq
    ·simp only[idsV,zA4]at hq; omega
    ·exact t4 q hq
   refine⟨⟨.inr ⟨t5,fun _=>t3⟩,.inr t4⟩,⟨fun _=>.inr (.inl t2),.inr (.inl t1)⟩,⟨fun _=>.inr (.inl t2),.inr (.inl t1)⟩,⟨fun _=>.inr (.inl t2),.inr (.inl t1)⟩,⟨.inr ⟨t6,fun _=>.inl t2⟩,.inr (.inl t1)⟩,⟨fun _=>.inr (.inl t2),.inr (.inl t1)⟩,⟨fun _=>.inr (.inl t2),.inr (.inl t1)⟩,⟨fun _=>.inr (.inl t2),.inr (.inl t1)⟩,⟨.inr ⟨t6,fun _=>.inl t2⟩,.inr (.inl t1)⟩,⟨fun _=>.inr t3,.inr t4⟩,⟨.inr fun _=>t7,.inr t8⟩,?_⟩
   generalize hK:ext Z _=K
   have mK:Mod [] Z K:=hK▸Mod.ext okZ
   have nK:K.next=hi+1:=by rw[<-hK,ext_next,nZ]; rfl
   have kN:bk K (hi+0)=some ⟨149,false,wfC fr⟩:=by rw[<-hK,bk_at nZ (by simp),hfr]; rfl
   clear hK
   have okK:=mK.ok okZ
   have kK:=(mK.bk (by omega) (by simp)).trans kZ
   have cK:=cZ.mod0 mK
   have scK:∀ z∈fs++[fr],scb K.next z.2=true:=fun z hz=>by
    rcases zB7.1 hz with hz|hz
    ·exact scb_mono (by omega) _ (hsc0 z hz)
    ·rw[zA4]at hz
     rw[hz,hfr]
     exact scb_mono (by omega) _ sav
   obtain⟨aw,haw⟩:=cK.sl
   refine wd_appC (v:=w) (n:=hi+0) (fs:=fs) (f:=fr) rfl (by rw[haw]; simp only[ruU,Nat.reduceEqDiff]) (by decide) cK kN (by omega) (by omega) (by rw[hfr]; rfl) scK okK (by simp only[all2_cons,all2_nil,hA,true_or,and_true]) fun Z2 D2 cZ2 mZ2 hD2 nZ2=>?_
   rw[nK]at cZ2 nZ2 ⊢
   have nZ2':Z2.next=hi+2:=nZ2
   have hwn:∀ q∈idsV w,y+1<=q:=fun q hq=>by rcases hidw q hq with h|h<;>omega
   have kZ2:=(mZ2.bk (by omega) (fun h=>by have:=hwn _ h; omega)).trans kK
   have okZ2:=mZ2.ok okK
   have z2b:Z2.base<=hi+2:=nZ2'▸okZ2
   have nz2:n<hi+2:=by omega
   have s2:scb (hi+2) (.slice (some ⟨hi+1,0,none⟩) (fs.length+1) (fs.length+1))=true:=by simp only[scb]; exact blt_of (by omega)
   have s2':scb (hi+2+0) (.slice (some ⟨hi+1,0,none⟩) (fs.length+1) (fs.length+1))=true:=s2
   rw[show Z2=ext Z2 [] from rfl]
   simp only[nZ2',nz2,kZ2,s2,hA,Tryz.results63,ruD,ruW,putL,Nat.reduceLeDiff,xF,ruU,Nat.reduceLT,Nat.reduceAdd,Nat.reduceEqDiff]
   refine⟨⟨.inr (.inl (by omega)),.inr (.inl (by omega)),fun _=>.inr (.inl (by omega)),.inr (.inl (by omega))⟩,⟨.inr (.inl (by omega)),.inr (.inl (by omega)),fun _=>.inr (.inl (by omega)),.inr (.inl (by omega))⟩,?_,fs++[fr],?_,rfl,by simp⟩
   ·exact (((((mY.trans mY1).mono (by simp)).step mZ hok fun q hq=>.inr (by simp only[zA4]at hq; omega)).trans (mK.mono (by simp))).step mZ2 hok fun q hq=>.inr (by have:=hwn q hq; omega)).trans (by rw[ext_nil]; exact Mod.uw (by simp))
   have m9:Mod [n] Z2 (ext (uw Z2 n 10 [.slice (some ⟨hi+1,0,none⟩) (fs.length+1) (fs.length+1)]) []):=by rw[ext_nil]; exact Mod.uw (by simp)
   have o1:=(wY.old.trans mY1).step mZ hc.ok fun q hq=>.inr (by simp only[zA4]at hq; omega)
   have o2:=(o1.trans mK).step mZ2 hc.ok fun q hq=>.inr (by have:=hwn q hq; omega)
   refine⟨o2.step m9 hc.ok fun q hq=>.inr (by simp only[zA4]at hq; omega),hlo,by rw[ext_nil,uw_next]; omega,⟨.slice (some ⟨hi+1,0,none⟩) (fs.length+1) (fs.length+1),by rw[ext_nil,bk_uw_eq,kZ2]; rfl,cZ2.mod m9 fun q hq=>by simp only[idsV,zA4]at hq ⊢; omega,fun q hq=>by simp only[idsV,zA4]at hq; omega⟩,fun z hz=>?_⟩
   rcases zB7.1 hz with hz|hz
   ·exact hw.mem z hz
   ·rw[zA4]at hz
    rw[hz,hfr]
    rw[ea]at hx
    exact hx
 have h19:op=19\/op=20:=by omega
 obtain⟨f,hl,hfc,hfh,hfb⟩:=p19 h19
 have hcg:chgB op args b=b:=by unfold chgB; rw[if_neg (by omega),if_neg (by omega)]
 rw[hcg]
 obtain⟨l1,l2,hdl⟩:=last_get hl
 rw[zC8]at l1 l2 hdl
 rw[zE5,zB2]at l1
 obtain⟨⟨f',fav⟩,l1,rfl⟩:=l1
 simp only at hfc hfh hfb hl hdl
 obtain⟨k,hk⟩:=Go.Ax.exq (fs.length-1)
 rw[hk]at l1 hdl
 have hkl:fs.length=k+1:=by omega
 have hk1:(fs.length:Int)-1=(k:Int):=by omega
 rw[hk1]at g5
 obtain⟨nf,ef2,lnf,bf,ia,lf,m3,m4,m5⟩:=cY.one l1
 rw[ef]at ia
 have e12:=ef.symm.trans ef2
 simp only[Value.slice.injEq,and_true]at e12
 subst e12
 have rf:=rk_of bf
 rw[nY]at lnf
 have hd2:decide ((k:Int)<0)=false:=decide_eq_false (by omega)
 have hfk:=hfs k f' (by rw[zE5,l1]; rfl)
 have hbd:=hfk.h
 have hwh:IntKind.i64.wrap (f'.h+1)=f'.h+1:=wrap_sm (by omega) (by omega)
 have hd4:decide (¬h=f'.h+1)=false:=decide_eq_false (by rw[hfh]; simp)
 have hd5:decide (¬b=f'.b)=false:=decide_eq_false (by rw[hfb]; simp)
 obtain⟨tc,htc⟩:=Go.Ax.exq (f'.c)
 rw[htc]at m5 hfc
 have hopc:(op=19/\tc=false)\/(op=20/\tc=true):=by
  rcases h19 with rfl|rfl
  ·exact .inl ⟨rfl,hfc⟩
  ·exact .inr ⟨rfl,hfc⟩
 unfold wfV wfC at lf
 have hmem:=hw.mem _ (zF2 l1)
 have sf0:=hsc0 _ (zF2 l1)
 obtain⟨a3,c3,eav⟩:=(hc.ins.av _ hmem).sl
 simp only at eav sf0 hmem
 obtain⟨⟨pos2,op2,args2⟩,fh,fb,fc⟩:=f'
 simp only at lf eav m3 m4 m5 hfh hfb hd4 hd5 hwh hbd htc hmem l1 hl
 subst eav
 obtain⟨y1,hy1⟩:∃ q,y+1=q:=⟨_,rfl⟩
 rw[hy1]at nY yb' ny' yy' lnf
 have sf:scb y1 (.slice a3 args2.length c3)=true:=scb_mono (by omega) _ sf0
 have hnf:n≠nf:=fun e=>(hid nf (by rw[ef2]; simp[idsV])).1 e.symm
 obtain⟨nf',ef3,_,gnf,rcut,_,hcut⟩:=cY.cut (k:=k) (by omega)
 have e13:=ef2.symm.trans ef3
 simp only[Value.slice.injEq,Option.some.injEq,Addr.mk.injEq,and_true]at e13
 subst e13
 rw[ef2]at hcut
 have htk:(fs.take k).length=k:=by rw[zE1]; omega
 rcases hopc with⟨rfl,rfl⟩|⟨rfl,rfl⟩
 all_goals
  simp only[zB6]at g14 kB
  simp only[Int.reduceEq,g14,hT,hF,ruW,ruU,Nat.reduceLT,Nat.reduceEqDiff]
  refine w_drawB [] [(2,92),(16,106),(32,122)] (by kernel_rfl) (by kernel_rfl) (by kernel_rfl) fun ops anc hA hG=>?_
  simp only[all2_cons]at hG
  generalize hcode:Code.seq (Code.region 17 _ _) _=code
  simp only[Int.reduceEq,g0,g3,g5,nY,yb',ny',yy',kY,kB,ia,lnf,rf,lf,sf,m3,m4,m5,hd2,hd4,hd5,hwh,hG,hT,hF,qk_old,ruD,ruW,putL,Nat.reduceLeDiff,xF,ruU,Nat.reduceLT,Nat.reduceAdd,Nat.reduceEqDiff]
  subst hcode
  generalize hV:ext Y _=V
  have mV:Mod [] Y V:=hV▸Mod.ext okY
  have nV:V.next=y1+1:=by rw[<-hV,ext_next,nY]; rfl
  have kFV:bk V (y1+0)=some ⟨149,false,[.int .i64 pos2,.int .i64 op2,.slice a3 args2.length c3,.int .i64 fh,.int .i64 fb,.bool fc]⟩:=by rw[<-hV,bk_at nY (by simp)]; rfl
  clear hV
  have okV:=mV.ok okY
  have kV:=(mV.bk (by omega) (by simp)).trans kY
  have nv:n<y1+1:=by omega
  have rV:=rcut.mod0 mV
  have honeV:∀ z∈fs.take k,one z.2=true:=fun z hz=>hone z (List.mem_of_mem_take hz)
  have hscV:∀ z∈fs.take k,scb (y1+1) z.2=true:=fun z hz=>scb_mono (by omega) _ (hsc0 z (List.mem_of_mem_take hz))
  obtain⟨happ,cO,mO,lO⟩:=cl_own nV okV rV honeV hscV (by omega)
  obtain⟨aw,haw⟩:=own_sl (y1+1) (fs.take k).length
  have oO:=mO.ok okV
  obtain⟨M,hM⟩:=Go.Ax.exq (ownL 149 (wfL (fs.take k)) (fs.take k).length)
  have scO:=cO.sc
  rw[hM]at happ cO mO oO scO
  rw[haw]at happ cO lO scO
  rw[htk]at happ lO cO scO
  have hcutV:∀ L,aSlice Tryz.prog (ext V L) 66 (.slice (some ⟨nf,0,none⟩) fs.length fs.length) none (some (.int .i64 (k:Int))) none=some (.slice (some ⟨nf,0,none⟩) k fs.length,ext V L):=fun L=>hcut _ ((ext_get_old (by omega)).trans (mV.get nf (by omega) (by simp)))
  have scO2:scb (y1+(1+M.length)) (.slice aw k k)=true:=by rw[ext_next,nV,Nat.add_assoc]at scO; exact scO
  rw[show V=ext V [] from rfl]
  generalize hcode:Code.seq (Code.region 18 _ _) _=code
  simp only[g0,g5,nV,nv,kV,hcutV,happ,scO2,qk_old,ruW,putL,Nat.reduceLeDiff,xF,ruU,Nat.reduceLT,Nat.reduceAdd,Nat.reduceEqDiff]
  subst hcode
  have mVU:Mod [n] V (uw V n 10 [.slice aw k k]):=Mod.uw (by simp)
  obtain⟨U,hU⟩:=Go.Ax.exq (uw V n 10 [.slice aw k k])
  rw[hU]at mVU
  have nU:U.next=y1+1:=by rw[<-hU,uw_next,nV]
  have okU:=mVU.ok okV
  have kU:bk U n=some ⟨68,false,wkC c.least c.most c.depth c.u c.p c.lv c.hv a h b (.slice aw k k)⟩:=by rw[<-hU,bk_uw_eq,kV]; rfl
  have kFU:=(mVU.bk (by omega) (by simp only[zA4]; omega)).trans kFV
  have rU:RdAt U 6 (.slice (some ⟨nf,0,none⟩) k fs.length) (wfL (fs.take k)) (fs.take k).length:=rV.of mVU.next fun q hq=>by
   have:=(rV.ne q hq).2
   refine mVU.get q this ?_
   simp only[zA4]
   rintro rfl
   have:=rdF_ids hq
   simp only[idsV,zA4]at this
   exact hnf this
  obtain⟨_,cG,mG,lG⟩:=cl_own nU okU rU honeV hscV (by omega)
  rw[hM]at cG mG
  rw[haw,htk]at cG lG
  rw[hU]
  generalize hG2:ext U M=G
  rw[hG2]at cG mG
  have mYG:Mod [n] Y G:=((mV.mono (by simp)).trans mVU).trans (mG.mono (by simp))
  have okG:=mYG.ok okY
  have nG:G.next=y1+1+M.length:=by rw[<-hG2,ext_next,nU]
  have kG:=(mG.bk (by omega) (by simp)).trans kU
  have kFG:=(mG.bk (by omega) (by simp)).trans kFU
  have oldG:Mod [] H0 G:=wY.old.step mYG hc.ok fun q hq=>.inr (by simp only[zA4]at hq; omega)
  clear hG2 hU
  have wG:WkAt H0 c G n a h b (fs.take k):=⟨oldG,hlo,by omega,⟨_,kG,cG,fun q hq=>by have:=lG q hq; omega⟩,fun z hz=>hw.mem z (List.mem_of_mem_take hz)⟩
  obtain⟨g,hg⟩:=Go.Ax.exq G.next
  have yg:y1+0<g:=by omega
  rw[show G=ext G [] from rfl]
 ·subst htc
  obtain⟨d,hd⟩:=Go.Ax.exq (decide (op2=18))
  simp only[hg,yg,kFG,hd,qk_old,ruW,xF,ruU,Nat.reduceLT,Nat.reduceAdd,Nat.reduceEqDiff]
  obtain⟨fq,hfd⟩:∃ f:Wf,f=⟨⟨pos2,op2,args2⟩,fh,fb,false⟩:=⟨_,rfl⟩
  have hch:∀ q,chgF ⟨pos,((19:Nat):Int),args⟩ h b q=match q.getLast? with
   |some f=>if f.x.op=18 then q.dropLast++[{f with c:=true}] else q.dropLast
   |none=>q:=fun _=>rfl
  rw[hch,hl]
  simp only
  rw[hdl]
  cases d with
  |false =>
   rw[if_neg (of_decide_eq_false hd)]
   simp only[Tryz.results63,ruW,ruU,Nat.reduceLT]
   refine⟨trivial,(mY.mono (by simp)).trans mYG,fs.take k,wG,by rw[List.map_take],by omega⟩
  |true =>
   have h18:=of_decide_eq_true hd
   rw[if_pos h18]
   subst h18
   generalize hcode:Code.region 20 _ _=code
   simp only[hg,yg,kFG,ruW,putL,Nat.reduceLeDiff,xF,ruU,Nat.reduceLT,Nat.reduceAdd,Nat.reduceEqDiff]
   subst hcode
   have m2:Mod [y1+0] G (ext (uw G (y1+0) 5 [.bool true]) []):=by rw[ext_nil]; exact Mod.uw (by simp)
   generalize hG2:ext (uw G (y1+0) 5 [.bool true]) []=G2
   rw[hG2]at m2
   have nG2:G2.next=g:=by rw[<-hG2,ext_nil,uw_next,hg]
   have kF2:bk G2 (y1+0)=some ⟨149,false,[.int .i64 pos2,.int .i64 18,.slice a3 args2.length c3,.int .i64 fh,.int .i64 fb,.bool true]⟩:=by rw[<-hG2,ext_nil,bk_uw_eq,kFG]; rfl
   clear hG2
   have kG2:=(m2.bk (by omega) (by simp only[zA4]; omega)).trans kG
   unfold wkC at kG2
   have ok2:=m2.ok okG
   have cG2:ClW G2 (.slice aw k k) (fs.take k):=cG.mod m2 fun q hq=>by
    have:=lG q hq
    simp only[zA4]
    omega
   have old2:Mod [] H0 G2:=oldG.step m2 hc.ok fun q hq=>.inr (by simp only[zA4]at hq; have:=hno; omega)
   have sa2:scb g (.slice a3 args2.length c3)=true:=scb_mono (by omega) _ sf
   have ng:n<g:=by omega
   rw[show G2=ext G2 [] from rfl]
   refine w_drawB [(7,4),(7,5),(7,6),(10,4),(10,5),(10,6),(10,7)] [] (by kernel_rfl) (by kernel_rfl) rfl fun ops anc hA hG=>?_
   simp only[all2_cons]at hA
   simp only[g0,nG2,yg,ng,kF2,kG2,sa2,qk_old,ruD,ruW,Nat.reduceLeDiff,xF,ruU,Nat.reduceLT,Nat.reduceAdd,Nat.reduceEqDiff]
   generalize hK:ext G2 _=K
   have mK:Mod [] G2 K:=hK▸Mod.ext ok2
   have nK:K.next=g+1:=by rw[<-hK,ext_next,nG2]; rfl
   have kN:bk K (g+0)=some ⟨149,false,[.int .i64 pos2,.int .i64 18,.slice a3 args2.length c3,.int .i64 fh,.int .i64 fb,.bool true]⟩:=by rw[<-hK,bk_at nG2 (by simp)]; rfl
   clear hK
   have okK:=mK.ok ok2
   have cK:=cG2.mod0 mK
   have scK:∀ z∈fs.take k++[({fq with c:=true},.slice a3 args2.length c3)],scb K.next z.2=true:=fun z hz=>by
    rcases zB7.1 hz with hz|hz
    ·exact scb_mono (by omega) _ (hscV z hz)
    ·rw[zA4]at hz
     subst hz
     exact scb_mono (by omega) _ sa2
   refine wd_appC (v:=.slice aw k k) (n:=g+0) (fs:=fs.take k) (f:=({fq with c:=true},.slice a3 args2.length c3)) rfl rfl (by decide) cK (by rw[kN,hfd]; rfl) (by omega) (by omega) rfl scK okK (by simp only[all2_cons,all2_nil,hA,true_or,and_true]) fun Z D cZ mZ hD nZ=>?_
   rw[htk,nK]at cZ ⊢
   rw[nK]at nZ
   have hidw:∀ q∈idsV (.slice aw k k),y1+1<=q:=lG
   have kZ:=(mZ.bk (by omega) (fun h=>by have:=hidw _ h; omega)).trans ((mK.bk (by omega) (by simp)).trans kG2)
   have okZ:=mZ.ok okK
   have nZ2:Z.next=g+2:=nZ
   have ng2:n<g+2:=by omega
   have sZ:scb (g+2) (.slice (some ⟨g+1,0,none⟩) (k+1) (k+1))=true:=by simp only[scb]; exact blt_of (by omega)
   rw[show Z=ext Z [] from rfl]
   simp only[nZ2,ng2,kZ,sZ,hA,Tryz.results63,ruD,ruW,putL,Nat.reduceLeDiff,xF,ruU,Nat.reduceLT,Nat.reduceAdd,Nat.reduceEqDiff]
   refine⟨⟨.inr (.inl (by omega)),.inr (.inl (by omega))⟩,⟨.inr (.inl (by omega)),.inr (.inl (by omega))⟩,?_,fs.take k++[({fq with c:=true},.slice a3 args2.length c3)],?_,by rw[zF5,List.map_take,hfd]; rfl,by rw[zC6,htk]; simp only[zC7]; omega⟩
   ·exact (((((mY.mono (by simp)).trans mYG).step m2 hok fun q hq=>.inr (by simp only[zA4]at hq; omega)).trans (mK.mono (by simp))).step mZ hok fun q hq=>.inr (by have:=hidw _ hq; omega)).trans (by rw[ext_nil]; exact Mod.uw (by simp))
   have m3':Mod [n] Z (ext (uw Z n 10 [.slice (some ⟨g+1,0,none⟩) (k+1) (k+1)]) []):=by rw[ext_nil]; exact Mod.uw (by simp)
   have o1:=((old2.trans mK).step mZ hc.ok fun q hq=>.inr (by have:=hidw _ hq; omega))
   refine⟨o1.step m3' hc.ok fun q hq=>.inr (by simp only[zA4]at hq; omega),hlo,by rw[ext_nil,uw_next]; omega,⟨.slice (some ⟨g+1,0,none⟩) (k+1) (k+1),by rw[ext_nil,bk_uw_eq,kZ]; rfl,cZ.mod m3' fun q hq=>by simp only[idsV,zA4]at hq ⊢; omega,fun q hq=>by simp only[idsV,zA4]at hq; omega⟩,fun z hz=>?_⟩
   rcases zB7.1 hz with hz|hz
   ·exact wG.mem z hz
   ·rw[zA4]at hz
    subst hz
    rw[hfd]
    exact hmem
 ·subst htc
  simp only[hg,yg,kFG,Tryz.results63,qk_old,ruW,xF,ruU,Nat.reduceLT,Nat.reduceAdd,Nat.reduceEqDiff]
  have hch:∀ q,chgF ⟨pos,((20:Nat):Int),args⟩ h b q=q.dropLast:=fun _=>rfl
  rw[ext_nil,hch,hdl]
  exact⟨trivial,(mY.mono (by simp)).trans mYG,fs.take k,wG,by rw[List.map_take],by omega⟩
set_option maxRecDepth 100000
theorem run_dp {D:Int} {l:List Ins}:∀ (n:Nat) {ks:Ks} {dn:List Bool} {ks':Ks},runR D l n ks dn=.ok ks'->ks.length=l.length->(∀ (j:Nat) (t:St),ks[j]?=some (some t)->deepR D 200 1000 t=false)->∀ (j:Nat) (t:St),ks'[j]?=some (some t)->deepR D 200 1000 t=false
 |0,_,_,_,h,_,hk=>by
  rw[runR]at h
  simp only[Except.ok.injEq]at h
  exact h▸hk
 |n+1,ks,dn,ks',h,hl,hk=>by
  rw[runR]at h
  cases hn:nxtR ks dn with
  |none =>
   rw[hn]at h
   simp only[Except.ok.injEq]at h
   exact h▸hk
  |some i =>
   simp only[hn]at h
   cases hp:prR D l ks i with
   |error e=>rw[hp]at h; cases h
   |ok k1 =>
    rw[hp]at h
    obtain⟨s,hs⟩:=pr_at hp
    obtain⟨x,hfx,_,hd2,hnew,_⟩:=pr_facts hs hl hp
    refine run_dp n h (by rw[pr_len hp]; exact hl) fun j t hj=>?_
    rcases hnew j t hj with h1|⟨_,rfl⟩|⟨h2,rfl⟩
    ·exact hk j t h1
    ·exact hfx.deep
    ·exact hd2 h2
theorem ver_dp {least most D:Int} {cn:Nat} {bs:List UInt8} {ks:Ks} (h:verR least most D cn bs=.ok ks):∀ (j:Nat) (t:St),ks[j]?=some (some t)->t.h<=D:=fun j t hj=>by
 obtain⟨a1,a2,a3,a4,a5,a6⟩:=ver_ok h
 have:=run_dp _ a6 (by rw[List.length_set,List.length_replicate]) (fun j t hj=>by rw[ent_get hj]; exact a5) j t hj
 unfold deepR at this
 simp only[zF6,decide_eq_false_iff_not]at this
 omega
structure KsFix (c:Wc) (ks:Ks):Prop where
 fix:∀ (i:Nat) (s:St),ks[i]?=some (some s)->∃ x,FxAt c.depth (c.ls.map (·.1)) ks i x s
 tg:∀ x∈c.ls.map (·.1),∀ t∈targsR x.op.toNat x.args,0<=findR (c.ls.map (·.1)) t
 ok:KsOk ks
 dp:∀ (j:Nat) (t:St),ks[j]?=some (some t)->t.h<=c.depth
 len:ks.length=(c.ls.map (·.1)).length
 hs:c.hs=hghR ks
theorem op_cases (op:Nat) (h:op<28) (h2:¬(op=10\/op=11\/op=12\/op=13\/op=14\/op=15\/op=20)):op=0\/op=1\/op=2\/op=3\/op=4\/op=5\/op=6\/op=7\/op=8\/op=9\/op=16\/op=17\/op=18\/op=19\/op=21\/op=22\/op=23\/op=24\/op=25\/op=26\/op=27:=by omega
def stJ (op:Nat) (j:Bool) (h h1 h':Int):Prop:=(j=true->(op=10\/op=11\/op=12)/\h'=h1\/(op=13\/op=14)/\h'=h)/\(j=false->op≠10/\op≠15/\h'=h1)
theorem steps39_c (H0:AHeap) (c:Wc) (hc:WcOk H0 c) (ks:Ks) (hk:KsFix c ks) (H:AHeap) (n:Nat) (w:Wk) (fs:List Wv) (m:Nat) (hw:WkAt H0 c H n (w.at':Int) w.h w.b fs) (hfw:fs.map (·.1)=w.fs) (hwk:WkOk (c.ls.map (·.1)) ks w) (hm:m<=1073741824) (hok:H.base<=H.next) :
  CallA Tryz.prog 39 [.pointer (some ⟨n,0,none⟩),.int .i64 (m:Int)] H (fun out X=>Mod [] H0 X/\∃ on,out=.ok (.tuple #[.bool on,.bool true])/\(on=true->∃ (w':Wk) (fs':List Wv),WkAt H0 c X n (w'.at':Int) w'.h w'.b fs'/\fs'.map (·.1)=w'.fs/\WkOk (c.ls.map (·.1)) ks w')):=by
 obtain⟨i,h,b,wfs⟩:=w
 simp only at hw hfw
 subst hfw
 obtain⟨hst,hfs⟩:=hwk
 simp only at hst hfs
 obtain⟨x0,hfx⟩:=hk.fix _ _ hst
 have hso:=hk.ok _ _ hst
 have hdp:=hk.dp _ _ hst
 obtain⟨q1,q2,q3,q4,q5,q6⟩:=hso
 simp only[zC8]at q1 q2 q3 q4 q5 hdp
 have hli:=hfx.ins
 rw[zE5,zB2]at hli
 obtain⟨⟨x,av⟩,hli,rfl⟩:=hli
 have hmemI:=zF2 hli
 have hwfx:=(hc.wf _ hmemI).1
 have halen:=(hc.wf _ hmemI).2
 simp only at hwfx halen hfx
 obtain⟨pos,opI,args⟩:=x
 obtain⟨op,rfl⟩:∃ op:Nat,opI=op:=⟨opI.toNat,by have:=hwfx.1; simp only at this; omega⟩
 have hop:=hwfx.2.1
 have h28:op<28:=by simp only at hop; omega
 simp only at halen
 obtain⟨y,hy⟩:=Go.Ax.exq H.next
 have yb:H.base<=y:=hy▸hok
 have ny:n<y:=hy▸hw.lt
 have hno:=hw.old.next
 obtain⟨fv,kH,cH,lH⟩:=hw.bk
 have kH0:=kH
 obtain⟨f0,ef⟩:=cH.sl
 obtain⟨lp,lc,elv⟩:=hc.ins.rd.sl
 obtain⟨n2,off2,sp2,c2,e2,o2,M2,e21,n21,r21,ia2,l2a,l2b,l2c,l2d⟩:=(hc.ins.mod0 hw.old).fld hli
 simp only[ivV,ivC]at l2a
 obtain⟨a1,ac,eav⟩:=(hc.ins.av _ hmemI).sl
 simp only at eav
 subst eav
 have sav:scb y (.slice a1 args.length ac)=true:=hy▸scb_mono hno _ (hc.ins.sc _ hmemI)
 rw[hy]at n21
 unfold wkC at kH
 rw[e21]at kH ia2
 refine callE_fn mixed Tryz.func39 rfl Tryz.ntmps39 (zB3 rfl) ?_
 simp only[ruW,ruU,entryE,Nat.reduceLT,Nat.reduceAdd]
 refine w_drawB [(11,10)] [] (by kernel_rfl) (by kernel_rfl) rfl fun ops anc hA hG=>?_
 simp only[all2_cons]at hA
 simp only[hy,yb,ny,kH,ia2,n21,r21,l2a,sav,hA,qk_old,ruD,ruW,putL,Nat.reduceLeDiff,xF,ruU,Nat.reduceLT,Nat.reduceAdd,Nat.reduceEqDiff]
 generalize hY:ext H _=Y
 have mY:Mod [] H Y:=hY▸Mod.ext hok
 have nY:Y.next=y+1:=by rw[<-hY,ext_next,hy]; rfl
 have kB:bk Y (y+0)=some ⟨59,false,[.int .i64 pos,.int .i64 (op:Int),.slice a1 args.length ac]⟩:=by rw[<-hY,bk_at hy (by simp)]; rfl
 clear hY hA
 obtain⟨y1,hy1⟩:∃ q,y+1=q:=⟨_,rfl⟩
 rw[hy1]at nY
 have okY:=mY.ok hok
 have wY:=hw.mod0 mY
 have kY:=(mY.bk (by omega) (by simp)).trans kH
 have kY0:=(mY.bk (by omega) (by simp)).trans kH0
 have cY:=cH.mod0 mY
 have yb':Y.base<=y1:=nY▸okY
 have ny':n<y1:=by omega
 have yy':y+0<y1:=by omega
 have nne:¬n=y+0:=by omega
 have nne2:¬y+0=n:=by omega
 have hav0:RdAt H0 1 (.slice a1 args.length ac) (iv args) args.length:=hc.ins.av _ hmemI
 have hpos:op=1\/op=22\/op=2\/op=23\/op=4\/op=9->0<args.length:=fun h=>hwfx.pos (by simp only[zB5]; omega)
 have hneed:=need61_c Y pos op (.slice a1 args.length ac) args h28 (hav0.mod0 wY.old) (by omega) hpos hwfx.2.2.2
 have hmiss:=hfx.miss
 have hfx':=hfx
 simp only[zB5]at hmiss
 obtain⟨nd1,nd2⟩:=need_ok q1 hmiss
 obtain⟨L,more,hLm⟩:∃ L more,needR op args=(L,more):=⟨_,_,rfl⟩
 rw[hLm]at hneed nd1 nd2
 simp only at hneed nd1 nd2
 refine hneed.to ?_
 have hgh:c.hs[i]?=some h:=by rw[hk.hs,hghR,zE5,hst]; rfl
 have hil:i<c.hs.length:=(zE6.1 hgh).1
 obtain⟨n3,off3,sp3,c3,e3,o3,M3,e31,n31,r31,m31⟩:=(hc.hgt.mod0 wY.old).one hil
 rw[iv_get,hgh,zA6]at m31
 have i3:=ia_of (P:=Tryz.prog) (k:=.i64) (i:=i) (n:=n3) (off:=off3) (len:=c.hs.length) (cap:=c3) (s:=sp3) u35 s3 hil
 rw[zD0]at i3
 rw[nY]at n31
 have kY3:=kY
 rw[e31]at kY3
 have dh1:decide (¬h=h)=false:=by simp
 have dh2:decide (h<L)=false:=decide_eq_false (by omega)
 have dh3:decide (c.depth<h)=false:=decide_eq_false (by omega)
 have hF:∀ i:Decidable False,@decide False i=false:=fun i=>by simp
 have hT:∀ i:Decidable True,@decide True i=true:=fun i=>by simp
 have hNF:∀ i:Decidable (¬True),@decide (¬True) i=false:=fun i=>by simp
 generalize hcode:Code.region 3 _ _=code
 simp only[ruW,ruU,Nat.reduceLT,Nat.reduceEqDiff]
 subst hcode
 refine w_drawB [] [(15,41),(23,49)] (by kernel_rfl) (by kernel_rfl) (by kernel_rfl) fun ops anc hA hG=>?_
 simp only[all2_cons]at hG
 generalize hcode:Code.seq (Code.region 5 _ _) _=code
 simp only[nY,kY3,r31,m31,i3,dh2,dh3,hF,hG,ruD,ruW,xF,ruU,Nat.reduceLT,Nat.reduceAdd,Nat.reduceEqDiff]
 subst hcode
 refine w_env fun E hE=>?_
 have g0:E 0=.pointer (some ⟨n,0,none⟩):=by rw[hE]; rfl
 have g1:E 1=.int .i64 (m:Int):=by rw[hE]; rfl
 have g6:E 6=.pointer (some ⟨y+0,0,none⟩):=by rw[hE]; rfl
 have g8:E 8=.int .i64 more:=by rw[hE]; rfl
 clear hE hG
 have ht5:((m:Int)).tmod 5=((m % 5:Nat):Int):=tmod_nat m 5
 have hr5:∀ G:AHeap,aBin Tryz.prog G .rem 3 (.int .i64 (m:Int)) (.int .i64 5)=some (.int .i64 ((m % 5:Nat):Int)):=fun G=>by rw[bin_rem (by decide),ht5]
 have hwq5:IntKind.i64.wrap ((m / 5:Nat):Int)=((m / 5:Nat):Int):=wrap_sm (by omega) (by omega)
 have hq5:∀ G:AHeap,aBin Tryz.prog G .quo 3 (.int .i64 (m:Int)) (.int .i64 5)=some (.int .i64 ((m / 5:Nat):Int)):=fun G=>by
  rw[bin_quo (by decide),show ((m:Int)).tdiv 5=((m / 5:Nat):Int) from tdiv_nat m 5,hwq5]
 obtain⟨d5,hd5⟩:∃ d,decide (((m % 5:Nat):Int)=0)=d:=⟨_,rfl⟩
 have hfl:fs.length<=1000:=by omega
 cases d5 with
 |true =>
  simp only[g0,g1,hr5,hq5,hd5,ruW,xF,ruU,Nat.reduceLT,Nat.reduceEqDiff]
  refine (leaves62_c H0 c hc ks Y n (i:Int) h b fs (m / 5) wY hfs hfl (by omega) okY).mono ?_
  rintro _ F ⟨oF,r,rfl,hr⟩
  rw[show F=ext F [] from rfl]
  simp only[Tryz.results39,ruW,ruU,Nat.reduceLT,Nat.reduceEqDiff]
  rw[ext_nil]
  refine⟨oF,r,rfl,fun h=>?_⟩
  obtain⟨w',fs',l1,l2,l3,_⟩:=hr h
  exact⟨w',fs',l2,l3,leaves_ok hfs _ _ l1⟩
 |false =>
 have hef:=eff_bd op args fun h=>⟨hpos (by omega),hwfx.fst (hpos (by omega))⟩
 have hef1:(effR op args).1<=h:=by
  have:=hmiss
  unfold missR at this
  simp only[zF6,decide_eq_false_iff_not]at this
  omega
 have hmb:-70000<=more/\more<=1/\0<=h+more:=by omega
 have hwm:IntKind.i64.wrap (h+more)=h+more:=wrap_sm (by omega) (by omega)
 obtain⟨m',hm'⟩:∃ q,m / 5=q:=⟨_,rfl⟩
 rw[hm']at hq5
 have hm2:m'<=1073741824:=by omega
 rw[ef]at kY
 have sav1:scb y1 (.slice a1 args.length ac)=true:=scb_mono (by omega) _ sav
 rw[show Y=ext Y [] from rfl]
 simp only[g0,g1,g6,g8,nY,ny',yy',nne2,kY,kB,hr5,hq5,hd5,hwm,qk_old,ruW,putL,Nat.reduceLeDiff,xF,ruU,Nat.reduceLT,Nat.reduceAdd,Nat.reduceEqDiff]
 have mU:Mod [n] Y (ext (uw Y n 8 [.int .i64 (h+more)]) []):=by rw[ext_nil]; exact Mod.uw (by simp)
 generalize hU:ext (uw Y _ _ _) []=U
 rw[hU]at mU
 have nU:U.next=y1:=by rw[<-hU,ext_nil,uw_next,nY]
 have kU:bk U n=some ⟨68,false,wkC c.least c.most c.depth c.u c.p c.lv c.hv (i:Int) (h+more) b fv⟩:=by rw[<-hU,ext_nil,bk_uw_eq,kY0]; rfl
 clear hU
 have okU:=mU.ok okY
 have wU:=wY.upd hc cY lH mU kU
 have hchg:=chg_ok hwfx (hk.tg _ (zD5.2 ⟨_,hmemI,rfl⟩)) hk.len hfx hfs ⟨q1,q2⟩ ⟨q3,q4⟩
 simp only[zB5]at hchg
 rw[hLm]at hchg
 simp only at hchg
 obtain⟨hf1,haf1,haf13,haf10⟩:=hchg
 have hdis:=hfx.dis
 simp only[zB5]at hdis
 have p8:op=8->0<=b-args.getD 0 0/\∀ f,(fs.map (·.1)).getLast?=some f->f.b<=b-args.getD 0 0:=fun h8=>by
  subst h8
  exact unb_ok hdis hfs
 have p19:op=19\/op=20->∃ f,(fs.map (·.1)).getLast?=some f/\f.c=decide (op=20)/\h+more=f.h+1/\b=f.b:=fun h19=>by
  obtain⟨f,z1,z2,z3,z4⟩:=done_ok (x:=⟨pos,(op:Int),args⟩) (by simp only[zB5]; exact hdis) (by simp only[zB5]; exact h19) hfs
  simp only[zB5]at z2
  have hm0:more=0:=by
   rcases h19 with rfl|rfl<;>(cases hLm; rfl)
  exact⟨f,z1,z2,by omega,z4⟩
 refine (changes63_c H0 c hc ks U n (i:Int) (h+more) b fs pos op args (.slice a1 args.length ac) wU hmemI hfs hfl (by omega) (by omega) p8 p19 okU).mono ?_
 rintro _ X ⟨rfl,mX,fs1,wX,hfs1,hfl1⟩
 have okX:=mX.ok okU
 obtain⟨z,hz⟩:=Go.Ax.exq X.next
 have lz:y1<=z:=by have:=mX.next; omega
 have nz:n<z:=by omega
 have yz:y+0<z:=by omega
 have kBX:=(mX.bk (by omega) (by simp only[zA4]; omega)).trans ((mU.bk (by omega) (by simp only[zA4]; omega)).trans kB)
 obtain⟨fv1,kX0,cX,lX⟩:=wX.bk
 obtain⟨f01,ef1⟩:=cX.sl
 have kX:=kX0
 unfold wkC at kX
 rw[ef1]at kX
 obtain⟨b1,hb1⟩:∃ q,chgB op args b=q:=⟨_,rfl⟩
 obtain⟨h1,hh1⟩:∃ q,h+more=q:=⟨_,rfl⟩
 rw[hb1]at kX kX0 wX haf1
 rw[hh1]at kX kX0 wX haf1 haf10 hfs1 hf1 hmb
 rw[show X=ext X [] from rfl]
 generalize hcode:Code.block 0 _=code
 simp only[g6,hz,yz,kBX,qk_old,ruW,xF,ruU,Nat.reduceLT,Nat.reduceAdd,Nat.reduceEqDiff]
 subst hcode
 refine w_env fun E2 hE=>?_
 have e0:E2 0=.pointer (some ⟨n,0,none⟩):=by rw[hE]; simp only[g0,ruU,Nat.reduceEqDiff]
 have e1:E2 1=.int .i64 (m':Int):=by rw[hE]; rfl
 have e6:E2 6=.pointer (some ⟨y+0,0,none⟩):=by rw[hE]; simp only[g6,ruU,Nat.reduceEqDiff]
 have e9:E2 9=.int .i64 h:=by rw[hE]; rfl
 have e10:E2 10=.bool false:=by rw[hE]; rfl
 have e88:E2 88=.int .i64 (op:Int):=by rw[hE]; rfl
 clear hE g0 g1 g6 g8 E
 rw[w_block]
 have ht2:((m':Int)).tmod 2=((m' % 2:Nat):Int):=tmod_nat m' 2
 have ht3:((m':Int)).tmod 3=((m' % 3:Nat):Int):=tmod_nat m' 3
 have hr2:∀ G:AHeap,aBin Tryz.prog G .rem 3 (.int .i64 (m':Int)) (.int .i64 2)=some (.int .i64 ((m' % 2:Nat):Int)):=fun G=>by rw[bin_rem (by decide),ht2]
 have hr3:∀ G:AHeap,aBin Tryz.prog G .rem 3 (.int .i64 (m':Int)) (.int .i64 3)=some (.int .i64 ((m' % 3:Nat):Int)):=fun G=>by rw[bin_rem (by decide),ht3]
 have hwq3:IntKind.i64.wrap ((m' / 3:Nat):Int)=((m' / 3:Nat):Int):=wrap_sm (by omega) (by omega)
 have hq3:∀ G:AHeap,aBin Tryz.prog G .quo 3 (.int .i64 (m':Int)) (.int .i64 3)=some (.int .i64 ((m' / 3:Nat):Int)):=fun G=>by
  rw[bin_quo (by decide),show ((m':Int)).tdiv 3=((m' / 3:Nat):Int) from tdiv_nat m' 3,hwq3]
 obtain⟨d2,hd2⟩:∃ d,decide (((m' % 2:Nat):Int)=0)=d:=⟨_,rfl⟩
 obtain⟨d3,hd3⟩:∃ d,decide (((m' % 3:Nat):Int)=0)=d:=⟨_,rfl⟩
 refine blockC_meet (fun E' X'=>∃ j h',stJ op j h h1 h'/\WkAt H0 c X' n (i:Int) h' b1 fs1/\X'.base<=X'.next/\bk X' (y+0)=some ⟨59,false,[.int .i64 pos,.int .i64 (op:Int),.slice a1 args.length ac]⟩/\y+0<X'.next/\E' 0=.pointer (some ⟨n,0,none⟩)/\E' 6=.pointer (some ⟨y+0,0,none⟩)/\E' 10=.bool j) ?_ ?_
 ·have hxz:y+0<X.next:=by omega
  have hends:∀ E':Env,E' 0=.pointer (some ⟨n,0,none⟩)->E' 6=.pointer (some ⟨y+0,0,none⟩)->E' 10=.bool false->op≠10->op≠15->∃ j h',stJ op j h h1 h'/\WkAt H0 c X n (i:Int) h' b1 fs1/\X.base<=X.next/\bk X (y+0)=some ⟨59,false,[.int .i64 pos,.int .i64 (op:Int),.slice a1 args.length ac]⟩/\y+0<X.next/\E' 0=.pointer (some ⟨n,0,none⟩)/\E' 6=.pointer (some ⟨y+0,0,none⟩)/\E' 10=.bool j:=fun E' k0 k6 k10 o1 o2=>⟨false,h1,⟨fun hj=>(by cases hj),fun _=>⟨o1,o2,rfl⟩⟩,wX,okX,kBX,hxz,k0,k6,k10⟩
  have hjmp:∀ (E':Env) (j:Bool),E' 0=.pointer (some ⟨n,0,none⟩)->E' 6=.pointer (some ⟨y+0,0,none⟩)->E' 10=.bool j->(op=10/\j=true\/op=11\/op=12\/(op=13\/op=14)/\j=false)->∃ j h',stJ op j h h1 h'/\WkAt H0 c X n (i:Int) h' b1 fs1/\X.base<=X.next/\bk X (y+0)=some ⟨59,false,[.int .i64 pos,.int .i64 (op:Int),.slice a1 args.length ac]⟩/\y+0<X.next/\E' 0=.pointer (some ⟨n,0,none⟩)/\E' 6=.pointer (some ⟨y+0,0,none⟩)/\E' 10=.bool j:=fun E' j k0 k6 k10 o1=>by
   refine⟨j,h1,⟨fun hj=>?_,fun hj=>⟨?_,?_,rfl⟩⟩,wX,okX,kBX,hxz,k0,k6,k10⟩
   ·rcases o1 with⟨o,_⟩|o|o|⟨_,o⟩
    ·exact .inl ⟨.inl o,rfl⟩
    ·exact .inl ⟨.inr (.inl o),rfl⟩
    ·exact .inl ⟨.inr (.inr o),rfl⟩
    ·rw[o]at hj; cases hj
   ·rcases o1 with⟨_,o⟩|o|o|⟨o,_⟩
    ·rw[o]at hj; cases hj
    all_goals omega
   ·rcases o1 with⟨o,_⟩|o|o|⟨o,_⟩<;>omega
  rw[show X=ext X [] from rfl]
  by_cases hB:op=10\/op=11\/op=12\/op=13\/op=14\/op=15\/op=20
  ·rcases hB with rfl|rfl|rfl|rfl|rfl|rfl|rfl
   ·simp only[zB6]at e88
    simp only[Int.reduceEq,e88,hT,hF,ruW,ruU,Nat.reduceLT,Nat.reduceEqDiff]
    refine joinR_normal (hjmp _ true ?_ ?_ ?_ (.inl ⟨rfl,rfl⟩))
    ·exact e0
    ·exact e6
    ·rfl
   ·simp only[zB6]at e88
    simp only[Int.reduceEq,e1,e88,hT,hF,hr2,hd2,ruW,ruU,Nat.reduceLT,Nat.reduceEqDiff]
    refine joinR_normal (hjmp _ d2 ?_ ?_ ?_ (.inr (.inl rfl)))
    ·exact e0
    ·exact e6
    ·rfl
   ·simp only[zB6]at e88
    simp only[Int.reduceEq,e1,e88,hT,hF,hr2,hd2,ruW,ruU,Nat.reduceLT,Nat.reduceEqDiff]
    refine joinR_normal (hjmp _ d2 ?_ ?_ ?_ (.inr (.inr (.inl rfl))))
    ·exact e0
    ·exact e6
    ·rfl
   ·simp only[zB6]at e88
    cases d2 with
    |false =>
     simp only[Int.reduceEq,e1,e88,hT,hF,hr2,hd2,ruW,ruU,Nat.reduceLT,Nat.reduceEqDiff]
     refine joinR_normal (hjmp _ false ?_ ?_ ?_ (.inr (.inr (.inr ⟨.inl rfl,rfl⟩))))
     ·exact e0
     ·exact e6
     ·rfl
    |true =>
     simp only[Int.reduceEq,e0,e1,e9,e88,hz,nz,kX,hT,hF,hr2,hd2,ruW,putL,Nat.reduceLeDiff,xF,ruU,Nat.reduceLT,Nat.reduceAdd,Nat.reduceEqDiff]
     have mS:Mod [n] X (ext (uw X n 8 [.int .i64 h]) []):=by rw[ext_nil]; exact Mod.uw (by simp)
     refine joinR_normal ⟨true,h,⟨fun _=>.inr ⟨.inl rfl,rfl⟩,fun hj=>(by cases hj)⟩,wX.upd hc cX lX mS ?_,mS.ok okX,?_,zD2 hxz mS.next,?_,?_,?_⟩
     ·rw[ext_nil,bk_uw_eq,kX0]; rfl
     ·exact (mS.bk hxz (by simp only[zA4]; omega)).trans kBX
     ·exact e0
     ·exact e6
     ·rfl
   ·simp only[zB6]at e88
    cases d2 with
    |false =>
     simp only[Int.reduceEq,e1,e88,hT,hF,hr2,hd2,ruW,ruU,Nat.reduceLT,Nat.reduceEqDiff]
     refine joinR_normal (hjmp _ false ?_ ?_ ?_ (.inr (.inr (.inr ⟨.inr rfl,rfl⟩))))
     ·exact e0
     ·exact e6
     ·rfl
    |true =>
     simp only[Int.reduceEq,e0,e1,e9,e88,hz,nz,kX,hT,hF,hr2,hd2,ruW,putL,Nat.reduceLeDiff,xF,ruU,Nat.reduceLT,Nat.reduceAdd,Nat.reduceEqDiff]
     have mS:Mod [n] X (ext (uw X n 8 [.int .i64 h]) []):=by rw[ext_nil]; exact Mod.uw (by simp)
     refine joinR_normal ⟨true,h,⟨fun _=>.inr ⟨.inr rfl,rfl⟩,fun hj=>(by cases hj)⟩,wX.upd hc cX lX mS ?_,mS.ok okX,?_,zD2 hxz mS.next,?_,?_,?_⟩
     ·rw[ext_nil,bk_uw_eq,kX0]; rfl
     ·exact (mS.bk hxz (by simp only[zA4]; omega)).trans kBX
     ·exact e0
     ·exact e6
     ·rfl
   ·simp only[zB6]at e88
    obtain⟨r1,r2⟩:=ret_ok q3 hdis
    have hfs0:fs1=[]:=by
     rw[r1]at hfs1
     exact List.map_eq_nil_iff.1 hfs1
    have hb0:b1=0:=by rw[<-hb1]; exact r2
    simp only[e88,hT,ruW,ruU,Nat.reduceLT]
    refine w_drawB [] [(6,97)] (by kernel_rfl) (by kernel_rfl) (by kernel_rfl) fun ops anc hA hG=>?_
    simp only[all2_cons]at hG
    have z1:decide ((fs1.length:Int)=0)=true:=by rw[hfs0]; rfl
    have z2:decide (b1=0)=true:=decide_eq_true hb0
    simp only[e0,hz,nz,kX,z1,z2,hG,joinR_ret,Tryz.results39,qk_old,ruD,ruW,xF,ruU,Nat.reduceLT,Nat.reduceAdd,Nat.reduceEqDiff]
    rw[ext_nil]
    exact⟨wX.old,false,rfl,fun h=>by cases h⟩
   ·simp only[zB6]at e88
    cases d3 with
    |false =>
     simp only[Int.reduceEq,e1,e88,hT,hF,hr3,hd3,ruW,ruU,Nat.reduceLT,Nat.reduceEqDiff]
     refine joinR_normal (hends _ ?_ ?_ ?_ (by decide) (by decide))
     ·exact e0
     ·exact e6
     ·exact e10
    |true =>
     simp only[Int.reduceEq,e0,e1,e88,hT,hF,hr3,hq3,hd3,ruW,xF,ruU,Nat.reduceLT,Nat.reduceEqDiff]
     rw[ext_nil]
     rw[<-hfs1]at hf1
     refine (leaves62_c H0 c hc ks X n (i:Int) h1 b1 fs1 (m' / 3) wX hf1 (by omega) (by omega) okX).mono ?_
     rintro _ F ⟨oF,r,rfl,hr⟩
     rw[show F=ext F [] from rfl]
     simp only[joinR_ret,Tryz.results39,ruW,ruU,Nat.reduceLT,Nat.reduceEqDiff]
     rw[ext_nil]
     refine⟨oF,r,rfl,fun hon=>?_⟩
     obtain⟨w',fs',l1,l2,l3,_⟩:=hr hon
     exact⟨w',fs',l2,l3,leaves_ok hf1 _ _ l1⟩
  ·clear hjmp haf13 haf10 p8 p19 hpos hneed
   rcases op_cases op h28 hB with rfl|rfl|rfl|rfl|rfl|rfl|rfl|rfl|rfl|rfl|rfl|rfl|rfl|rfl|rfl|rfl|rfl|rfl|rfl|rfl|rfl
   all_goals
    simp only[zB6]at e88
    simp only[Int.reduceEq,e88,hF,ruW,ruU,Nat.reduceLT,Nat.reduceEqDiff]
    refine joinR_normal (hends _ ?_ ?_ ?_ (by decide) (by decide))
    ·exact e0
    ·exact e6
    ·exact e10
 ·clear e0 e1 e6 e9 e10 e88 E2
  rintro E3 X3 ⟨j,h',hj,w3,ok3,kB3,lB3,e0,e6,e10⟩
  obtain⟨v,hv⟩:=Go.Ax.exq X3.next
  have vb:X3.base<=v:=hv▸ok3
  have nv:n<v:=hv▸w3.lt
  have yv:y+0<v:=hv▸lB3
  obtain⟨fv3,k3,c3',l3⟩:=w3.bk
  obtain⟨f3,ef3⟩:=c3'.sl
  have k3':=k3
  unfold wkC at k3'
  rw[ef3]at k3'
  have hfe:(fs1.map (·.1)).map Wf.fr=(chgF ⟨pos,(op:Int),args⟩ h1 b (fs.map (·.1))).map Wf.fr:=by rw[hfs1]
  rw[<-hfs1]at hf1
  cases j with
  |true =>
   have hl0:0<args.length:=hwfx.pos (by simp only[zB5]; rcases hj.1 rfl with⟨o,_⟩|⟨o,_⟩<;>omega)
   have hopj:op=10\/op=11\/op=12\/op=13\/op=14:=by rcases hj.1 rfl with⟨o,_⟩|⟨o,_⟩<;>omega
   obtain⟨na,offa,sa,ca,ea',oa,Ma,eqa,lna0,rka0,mka⟩:=(hav0.mod0 w3.old).one hl0
   have eqa2:=eqa
   simp only[Value.slice.injEq,true_and]at eqa2
   obtain⟨rfl,rfl⟩:=eqa2
   rw[iv_get,zA5 hl0,zA6]at mka
   have hga:args.getD 0 0=args[0]:=by rw[zA9,zA5 hl0]; rfl
   have i0:aIndexAddr Tryz.prog 35 (.slice (some ⟨na,offa,sa⟩) args.length ac) (.int .i64 0)=some (.pointer (some ⟨na,offa+0,none⟩)):=ia_of (i:=0) u35 s3 hl0
   rw[hv]at lna0
   obtain⟨t,ht⟩:=Go.Ax.exq (args[0])
   rw[ht]at mka hga
   have htm:t∈targsR op args:=by
    unfold targsR
    rw[if_pos (by omega),hga]
    exact zA4.2 rfl
   have hft:=hk.tg _ (zD5.2 ⟨_,hmemI,rfl⟩) t (by simp only[zB5]; exact htm)
   have hst2:=hfx.targ t (by simp only[zB5]; exact htm) (by rw[hk.len]; exact (find_lt hft).2)
   simp only[zB5]at hst2
   rw[show X3=ext X3 [] from rfl]
   simp only[e0,e6,e10,hv,yv,kB3,i0,lna0,rka0,mka,qk_old,ruW,xF,ruU,Nat.reduceLT,Nat.reduceAdd,Nat.reduceEqDiff]
   rw[ext_nil]
   refine (goes64_c X3 n c.least c.most c.depth c.u c.p c.lv c.hv fv3 (i:Int) h' b1 t c.ls k3 (by omega) (hc.ins.mod0 w3.old) (by have:=hc.len; omega) ok3).mono ?_
   rintro _ F ⟨rfl,mF,kF⟩
   rw[show F=ext F [] from rfl]
   simp only[Tryz.results39,ruW,ruU,Nat.reduceLT,Nat.reduceEqDiff]
   rw[ext_nil]
   have wF:=w3.upd hc c3' l3 mF kF
   refine⟨wF.old,true,by rw[decide_eq_true hft],fun _=>⟨⟨(findR (c.ls.map (·.1)) t).toNat,h',b1,fs1.map (·.1)⟩,fs1,?_,rfl,?_,hf1⟩⟩
   ·simp only
    rw[Int.toNat_of_nonneg hft]
    exact wF
   ·simp only
    rw[hst2]
    have hbb:b1=b:=by rw[<-hb1]; unfold chgB; rw[if_neg (by omega),if_neg (by omega)]
    have hff:chgF ⟨pos,(op:Int),args⟩ h1 b (fs.map (·.1))=fs.map (·.1):=by unfold chgF; simp only[zB5]; rw[if_neg (by omega),if_neg (by omega),if_neg (by omega)]
    rw[hfs1,hff,hbb]
    rcases hj.1 rfl with⟨o,e⟩|⟨o,e⟩
    ·rw[haf10 o,e]
    ·rw[haf13 o,e]
  |false =>
   obtain⟨o1,o2,rfl⟩:=hj.2 rfl
   have hnx:=hfx.next (by simp only[zB5]; exact⟨o1,o2⟩)
   simp only[zB5]at hnx
   rw[haf1]at hnx
   have hil1:i+1<c.ls.length:=by
    have:=(zE6.1 hnx).1
    rw[hk.len,zC8]at this
    exact this
   have hlen:=hc.len
   have hwi:IntKind.i64.wrap ((i:Int)+1)=((i+1:Nat):Int):=wrap_succ (by omega)
   have hdl:decide (((i+1:Nat):Int)<(c.ls.length:Int))=true:=decide_eq_true (by omega)
   rw[elv]at k3'
   rw[show X3=ext X3 [] from rfl]
   generalize hcode:Code.region 32 _ _=code
   simp only[e0,e10,hv,nv,k3',hwi,qk_old,ruW,putL,Nat.reduceLeDiff,xF,ruU,Nat.reduceLT,Nat.reduceAdd,Nat.reduceEqDiff]
   subst hcode
   have mS:Mod [n] X3 (ext (uw X3 n 7 [.int .i64 ((i+1:Nat):Int)]) []):=by rw[ext_nil]; exact Mod.uw (by simp)
   generalize hS:ext (uw X3 _ _ _) []=S
   rw[hS]at mS
   have nS:S.next=v:=by rw[<-hS,ext_nil,uw_next,hv]
   have kS:bk S n=some ⟨68,false,wkC c.least c.most c.depth c.u c.p c.lv c.hv ((i+1:Nat):Int) h' b1 fv3⟩:=by rw[<-hS,ext_nil,bk_uw_eq,k3]; rfl
   clear hS
   have wS:=w3.upd hc c3' l3 mS kS
   have okS:=mS.ok ok3
   have sb:S.base<=v:=nS▸okS
   unfold wkC at kS
   rw[elv]at kS
   rw[show S=ext S [] from rfl]
   refine w_drawB [] [] (by kernel_rfl) (by kernel_rfl) rfl fun ops anc hA hG=>?_
   simp only[e0,nS,nv,kS,hdl,Tryz.results39,qk_old,ruD,ruW,xF,ruU,Nat.reduceLT,Nat.reduceAdd,Nat.reduceEqDiff]
   rw[ext_nil]
   refine⟨wS.old,true,rfl,fun _=>⟨⟨i+1,h',b1,fs1.map (·.1)⟩,fs1,wS,rfl,?_,hf1⟩⟩
   simp only
   rw[hnx,hfe]
end Go.Proofs.YtnigelgcjfhghaaGreatDoor
