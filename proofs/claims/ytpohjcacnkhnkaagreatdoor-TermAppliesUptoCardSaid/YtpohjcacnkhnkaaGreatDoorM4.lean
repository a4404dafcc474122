/- Parts of the proof, one behind the other. -/
import Derived.Test.YtpohjcacnkhnkaaGreatDoorM3
import Derived.Test.YtpohjcacnkhnkaaGreatDoorRows
import Derived.Shelf.Strconv.Itoa1
import Derived.Shelf.Strconv.Itoa2
import Derived.Lib.ItoaMem
import Derived.ChangeArms
set_option linter.all false
set_option maxRecDepth 10000
set_option maxHeartbeats 16000000
open And renaming intro -> zA0
open Option renaming bind_eq_bind -> zA1, bind_eq_some_iff -> zA2, bind_some -> zA3, map_some -> zA9, map_eq_some_iff -> zB3
open Bool renaming and_eq_true -> zA4, false_eq_true -> zC4, not_true -> zE0, and_self -> zE3, not_false -> zG2
open List renaming mem_singleton -> zA5, mem_cons -> zA7, length_cons -> zB0, getElem?_eq_getElem -> zB1, mem_append -> zB2, length_append -> zB4, mem_map -> zB5, length_nil -> zB6, mem_of_getElem? -> zB9, map_cons -> zC0, nil_append -> zC1, getElem?_eq_none -> zC5, all_eq_true -> zC6, mem_cons_of_mem -> zC7, getD_eq_getElem?_getD -> zC8, nodup_cons -> zC9, append_nil -> zD0, drop_zero -> zD1, not_mem_nil -> zD2, append_assoc -> zD3, nodup_append -> zD4, take_of_length_le -> zD6, length_map -> zD7, length_drop -> zD8, mem_flatMap -> zE2, length_replicate -> zE4, mem_cons_self -> zE5, cons_append -> zE7, eq_nil_of_length_eq_zero -> zE9, getElem?_map -> zF0, drop_eq_nil_of_le -> zF1, length_set -> zF3, map_nil -> zF4, getElem?_cons_zero -> zF5, mem_of_mem_take -> zF6, mem_of_mem_drop -> zF9, mem_range -> zG0, getElem?_eq_some_iff -> zG1, drop_drop -> zG3, getElem?_cons_succ -> zG4, getElem_mem -> zG7, take_append_drop -> zG8
open Nat renaming le_of_ble_eq_true -> zA6, le_refl -> zA8, zero_le -> zB7, zero_add -> zB8, lt_or_ge -> zC2, le_trans -> zC3, lt_of_lt_of_le -> zD5, lt_succ_self -> zD9, add_zero -> zE1, ble_eq -> zE6, mul_one -> zE8, min -> zF2, zero_mul -> zF7, add_sub_cancel_left -> zF8, sub_self -> zG5
open Int renaming toNat_natCast -> zG6

namespace Go.Ax
section
variable {P : Program} {H : aa}
theorem H7 {st xt e:TypeId} {by1 cnt x:Nat} {z v:Value} {vs:List Value} {s:ByteArray} (hu:P.underlying st=some (.slice e)) (hsz:bh P e=some 1) (hby:bytesOf P e=some by1) (hz:zeroOf P e=some z) (hzl:z.cells.toList.length=1) (hi:fj P xt=some false)
  (h:du H e 1 v vs cnt) (h0:0<s.size) (hsm:small (cnt+s.size) by1=true) (hx:H.next=x) (hsc:aO H.next vs=true) :
  ∃ G,aD P H .append ⟨[st,xt]⟩ [v,.string s]=some (.slice (some ⟨x,0,none⟩) (cnt+s.size) (cnt+s.size),G)/\du G e 1 (.slice (some ⟨x,0,none⟩) (cnt+s.size) (cnt+s.size)) (vs++ay s.data.toList) (cnt+s.size)/\(H.base<=H.next->Mod (ae v) H G)/\G.next=x+1:=by
 have hsl:s.data.toList.length=s.size:=by rw[Array.length_toList]; rfl
 have htk:s.data.toList.take s.size=s.data.toList:=zD6 (by omega)
 have hbl:(ay s.data.toList).length=s.size:=by rw[ay,zD7,hsl]
 have hone:(ay s.data.toList).all one=true:=zC6.2 fun v' hv'=>by
  obtain⟨w',_,rfl⟩:=zB5.1 hv'
  rfl
 have hfs:cO H 1 s.size (.string s)=some (ay s.data.toList):=by simp only[cO,htk]
 have hf0:cO H 1 0 (.slice none 0 0)=some []:=rfl
 have hsb:∀ n,aO n (ay s.data.toList)=true:=fun n=>by
  rw[bL]
  intro v' hv'
  obtain⟨w',_,rfl⟩:=zB5.1 hv'
  rfl
 obtain⟨h1,h2,⟨rfl,rfl⟩|⟨hp,m,rfl,hm,hlt⟩⟩:=h
 ·have hv:vs=[]:=zE9 (by simpa using h1)
  subst hv
  rw[zC1,zB8]
  rw[zB8]at hsm
  have hn:=eN (H:=H) (L:=[]) (e:=e) (l:=ay s.data.toList) (o:=true) (hsb _)
  refine⟨ext H [⟨e,true,ay s.data.toList⟩],?_,⟨by omega,hone,.inr ⟨h0,x,rfl,?_,by rw[ai,hx]; simp⟩⟩,fun hok=>Mod.ext hok,by rw[ai,hx]; rfl⟩
  ·simp only[aD,eP,hu,hsz,hby,hz,hi,zA1,zA3,iY,hfs,hbl,hzl,zB8,hsm,zE8,and_self,if_true,cW]
   rw[if_neg (by omega)]
   simp only[hf0,zA3,zB6,List.all_nil,hone,decide_true,zE3,if_true,zC1]
   rw[show cF H e (ay s.data.toList) true=cF (ext H []) e (ay s.data.toList) true from rfl,hn,hx]
   rfl
  ·rw[show x=x+0 from rfl,bu hx (by simp)]; rfl
 ·obtain⟨rv,hcm,hrn⟩:=lz hm
  have hop:=jt hm
  have hf:=fI (sz:=1) (cnt:=cnt) (off:=0) (len:=cnt) (cap:=cnt) (s:=none) hm (by simp only; omega)
  simp only[zD1]at hf
  rw[zD6 (by omega)]at hf
  have hn:=eN (H:=dp H m) (L:=[]) (e:=e) (l:=vs++ay s.data.toList) (o:=true) (by rw[iO]; exact cB (by simpa using hsc) (hsb _))
  have mD:Mod (ae (.slice (some ⟨m,0,none⟩) cnt cnt)) H (dp H m):=Mod.cE (by simp[ae])
  refine⟨ext (dp H m) [⟨e,true,vs++ay s.data.toList⟩],?_,⟨by rw[zB4,h1,hbl,Nat.add_mul]; omega,by rw[List.all_append,h2,hone]; rfl,.inr ⟨by omega,x,rfl,?_,by rw[ai,iO,hx]; simp⟩⟩,fun hok=>mD.trans (Mod.ext (mD.ok hok)),by rw[ai,iO,hx]; rfl⟩
  ·simp only[aD,eP,hu,hsz,hby,hz,hi,zA1,zA3,iY,hfs,hbl,hzl,hsm,zE8,and_self,if_true,cW]
   rw[if_neg (by omega)]
   rw[zE8]at h1
   simp only[hf,zA3,h1,h2,hone,decide_true,zE3,if_true,fC,cY,hop,zA9,zE0,hcm]
   rw[if_pos ⟨trivial,by rw[zE6,hrn]; simp only; omega⟩]
   rw[show H.cE m none=ext (dp H m) [] from rfl,hn,hx]
   rfl
  ·rw[show x=x+0 from rfl,bu (show (dp H m).next=x from hx) (by simp)]; rfl
end
end Go.Ax
namespace Go.Proofs.YtpohjcacnkhnkaaGreatDoor.Tq
open Go.Ax
set_option maxRecDepth 100000
abbrev Jq:DataW Unit:=Rows.laid_internal_strconv_uint64pow10
def Pow (H:aa):Prop:=2<H.next/\∃ e,bk H 2=some ⟨e,false,dc Jq⟩
theorem Pow.of {H G:aa} (h:Pow H) (hn:H.next<=G.next) (hg:G.get 2=H.get 2):Pow G:=by
 obtain⟨h1,e,h2⟩:=h
 exact⟨by omega,e,(bg hg).trans h2⟩
theorem Pow.mod {H G:aa} {W:List Nat} (h:Pow H) (m:Mod W H G) (hW:2∉W):Pow G:=h.of m.next (m.get 2 h.1 hW)
theorem Lr:dc Jq=Go.Lib.pow10Tab.map fun z=>Value.int .u64 z:=by kernel_rfl
theorem I6 {ρ:Go.Ax.Ren} {H:aa} {w:World} (r:Rel Tryz.prog ρ H w) (t:Pow H):Go.Lib.TabIs Tryz.prog w "internal/strconv.uint64pow10" .u64 Go.Lib.pow10Tab:=by
 obtain⟨_,e,h⟩:=t
 obtain⟨c,a,b⟩:=pz r (show 2<Tryz.prog.globals.size by decide +kernel) h (by kernel_rfl)
 have hg:Tryz.prog.globalNamed "internal/strconv.uint64pow10" = some 2:=by kernel_rfl
 have hc:c=(Go.Lib.pow10Tab.map fun z=>Value.int .u64 z).toArray:=by
  rw[<-Lr,<-b]
 unfold Go.Lib.TabIs World.var?
 rw[hg]
 simp[a,hc]
def Om:Go.Shelf.Ren:=⟨fun n=>if n=129 then 168 else if n=283 then 163 else if n=284 then 164 else if n=285 then 165 else if n=317 then 167 else if n=318 then 169 else 0,fun n=>if n=37 then 25 else if n=46 then 138 else if n=51 then 170 else if n=53 then 173 else if n=212 then 195 else n,fun n=>if n=17 then 2 else n⟩
theorem Q5:Go.Proofs.Lays.n283 Tryz.prog Om:=by
 constructor
 all_goals first
  |exact mixed
  |kernel_rfl
  |(intro w; kernel_rfl)
theorem PN:Go.Proofs.Lays.n284 Tryz.prog Om:=by
 constructor
 all_goals first
  |exact mixed
  |kernel_rfl
  |(intro w; kernel_rfl)
theorem RE:Go.Proofs.LaysM.n284 Tryz.prog Om:=by
 constructor
 all_goals first
  |exact PN
  |exact mixed
  |kernel_rfl
  |(intro w; kernel_rfl)
theorem QN:Go.Proofs.Lays.n285 Tryz.prog Om:=by
 constructor
 all_goals first
  |exact mixed
  |kernel_rfl
  |(intro w; kernel_rfl)
theorem DF {f:FuncId} {args:List Value} {H:aa} {v:Value} (ha:∀ x∈args,af x=true) (hv:af v=true) (hs:∀ n,aS n v=true) (hc:∀ ρ w,Rel Tryz.prog ρ H w->Calls Tryz.prog f ⟨args⟩ w fun e w'=>e=.returned v/\w'=w):Pure f args H v:=by
 intro ρ w r hsc F m R hF hR
 rw[tg ρ _ ha]
 refine (hF.calls (hc ρ w r)).mono ?_
 rintro e w' ⟨rfl,rfl⟩
 have:=hR ρ w' (St.below r ⟨rfl,rfl,rfl,zA8 _,fun _ _=>rfl⟩) (hs _)
 rwa [df ρ _ hv]at this
theorem Oy (H:aa) (i:Nat) (h:i<100):Pure 163 [.int .i64 i] H (.string ⟨(Go.Lib.decDigits i).toArray⟩) :=
 DF (fun x hx=>by simp only[zA7,zD2,or_false]at hx; subst hx; rfl) rfl (fun _=>rfl) fun _ w _=>Go.Proofs.Any.internal_strconv_small Q5 i h w
theorem PW (H:aa) (t:Pow H) (u:Nat) (h1:1<=u) (h2:u<18446744073709551616):Pure 164 [.int .u64 u] H (.int .i64 (Go.Lib.nDigits u)) :=
 DF (fun x hx=>by simp only[zA7,zD2,or_false]at hx; subst hx; rfl) rfl (fun _=>rfl) fun _ w r=>Go.Proofs.Any.internal_strconv_numDigits RE u h1 h2 w (I6 r t)
theorem B9 (c:Array Value) (off:Nat) (d:Array UInt8) (i:Nat) (hi:i<c.size):(Go.Sort.putCells (fun b:UInt8=>Value.int .u8 (b.toNat:Int)) off d c)[i]?=if off<=i/\i<off+d.size then some (.int .u8 (d[i-off]!.toNat:Int)) else c[i]?:=by
 unfold Go.Sort.putCells
 rw[Array.getElem?_mapIdx,Array.getElem?_eq_getElem hi]
 simp only[zA9]
 split<;>rfl
theorem vm {D:List UInt8} {j:Nat} (h:j<D.length):(ay D).getD j undef=.int .u8 (D[j].toNat:Int):=by
 rw[zC8,ay,zF0,zB1 h]
 rfl
theorem RA (H:aa) (b n u cap:Nat) (D:List UInt8) (e:TypeId) (hb:bk H b=some ⟨e,false,ay D⟩) (hn:n=Go.Lib.nDigits u) (hD:n<=D.length) (hu:u<18446744073709551616) (hD2:D.length<=1000) :
  br Tryz.prog 165 [.slice (some ⟨b,0,some 0⟩) n cap,.int .u64 u] H (.ok (.tuple #[])) (uw H b 0 (ay (Go.Lib.decDigits u))):=by
 intro ρ w r hsc F m R hF hR
 obtain⟨rv,hcA,hrn,hrg⟩:=qY hb
 simp only at hrn hrg
 obtain⟨cc,ff,hg0⟩:=dW hcA
 have hz0:¬Fz (H.get b):=nc hcA
 obtain⟨o',hw,hfit⟩:=r.obj _ _ hg0
 simp only[Fits]at hfit
 obtain⟨c,fz,rfl,hcs,hsh,hop⟩:=hfit
 obtain⟨k1,k2,k3,rfl⟩:=hsh trivial
 have hDl:(ay D).length=D.length:=by simp[ay]
 have hcell:∀ j,j<n->∃ x:UInt8,D[j]?=some x/\c[j]?=some (.int .u8 (x.toNat:Int)):=fun j hj=>by
  have hj2:j<D.length:=by omega
  refine⟨D[j],zB1 hj2,?_⟩
  have h1:=hcs j (by rw[hrn,hDl]; omega)
  rw[k2,zE1]at h1
  rw[h1,hrg j (by rw[hDl]; exact hj2)]
  rw[vm hj2,Ren.val]
 obtain⟨d,hd⟩:∃ d:Array UInt8,d=(D.take n).toArray:=⟨_,rfl⟩
 have hds:d.size=n:=by rw[hd]; simp; omega
 have hH:Go.Sort.Holds (fun (b:UInt8)=>Value.int .u8 (b.toNat:Int)) w (ρ.blk b) 0 d:=fun j hj=>by
  rw[hds]at hj
  obtain⟨x,hx,hcx⟩:=hcell j hj
  have hdj:d[j]! = x:=by
   have h2:d[j]?=some x:=by rw[hd,List.getElem?_toArray,List.getElem?_take,if_pos hj,hx]
   rw[getElem!_def,h2]
  rw[hdj]
  simp only[World.cell?,World.frozen?,hw,zB8,hcx]
  exact⟨rfl,by simp⟩
 have hc:=Go.Proofs.Any.internal_strconv_formatBase10 QN (ρ.blk b) 0 cap u d w hH (by rw[hds,hn]; exact Go.Lib.lt_pow_nDigits u) hu (by rw[hds]; omega)
 have hA:[Value.slice (some ⟨b,0,some 0⟩) n cap,.int .u64 (u:Int)].map ρ.val=[.slice (some ⟨ρ.blk b,0,none⟩) d.size cap,.int .u64 (u:Int)]:=by
  simp[Ren.val,k2,hds]
 rw[hA]
 refine (hF.calls hc).mono ?_
 rintro en w' ⟨rfl,q,v',dk,rfl,hf⟩
 have hdk:dk.size=n:=by rw[hf.size,hds]
 rw[hds,hn]at hf
 have hdec:∀ j,j<n->(ay (Go.Lib.decDigits u)).getD j undef=.int .u8 (dk[j]!.toNat:Int):=fun j hj=>by
  have hj2:j<(Go.Lib.decDigits u).length:=by rw[Go.Lib.decDigits_length]; omega
  rw[zC8,ay,zF0,zB1 hj2,Go.Lib.row_is_numeral hf j hj2]
  rfl
 have hu1:uw H b 0 (ay (Go.Lib.decDigits u))=H.cE b (some ⟨.cells #[] e,false,rv.ft 0 (ay (Go.Lib.decDigits u))⟩):=by simp only[uw,hcA]
 have hmod:(Go.Sort.putRow (fun (b:UInt8)=>Value.int .u8 (b.toNat:Int)) w (ρ.blk b) 0 dk).heap=w.heap.modify (ρ.blk b) (Go.Sort.onCells (Go.Sort.putCells (fun b:UInt8=>Value.int .u8 (b.toNat:Int)) 0 dk)):=rfl
 have hblk:(Go.Sort.putRow (fun (b:UInt8)=>Value.int .u8 (b.toNat:Int)) w (ρ.blk b) 0 dk).heap[ρ.blk b]?=some (.cells (Go.Sort.putCells (fun b:UInt8=>Value.int .u8 (b.toNat:Int)) 0 dk c) e (0,0)):=by
  rw[hmod,Array.getElem?_modify,if_pos rfl,hw]
  rfl
 have hcsz:(Go.Sort.putCells (fun b:UInt8=>Value.int .u8 (b.toNat:Int)) 0 dk c).size=c.size:=by simp[Go.Sort.putCells]
 have hbl:(ay (Go.Lib.decDigits u)).length=n:=by rw[ay,zD7,Go.Lib.decDigits_length,hn]
 have hst:=St.cE r (n:=b) (o:=⟨.cells #[] e,false,rv.ft 0 (ay (Go.Lib.decDigits u))⟩) (w1:=(Go.Sort.putRow (fun (b:UInt8)=>Value.int .u8 (b.toNat:Int)) w (ρ.blk b) 0 dk).drewN q) (bD hg0) hz0 (by
   simp only[ki]
   intro j hj
   rw[RV.o9,hrn,hDl]at hj
   rw[RV.mJ,hbl,Nat.sub_zero]
   split
   ·rename_i h
    rw[hdec j (by omega)]
    rfl
   ·rw[hrg j (by rw[hDl]; exact hj)]
    rw[vm hj]
    rfl) (o':=.cells (Go.Sort.putCells (fun b:UInt8=>Value.int .u8 (b.toNat:Int)) 0 dk c) e (0,0)) (by
  simp only[Fits]
  refine⟨_,_,rfl,fun j hj=>?_,fun _=>⟨?_,k2,k3,rfl⟩,fun h=>(by cases h)⟩
  ·rw[RV.o9,hrn,hDl]at hj
   rw[k2,zE1,B9 _ _ _ _ (by rw[k1,hrn,hDl]; exact hj),RV.mJ,hbl,hdk,Nat.sub_zero]
   split
   ·rename_i h
    rw[hdec j (by omega),Ren.val]
   ·have h1:=hcs j (by rw[hrn,hDl]; exact hj)
    rw[k2,zE1]at h1
    exact h1
  ·rw[hcsz,RV.o9]; exact k1) hblk (by show (Go.Sort.putRow _ w (ρ.blk b) 0 dk).heap.size=_; rw[hmod,Array.size_modify]) (fun b' hb'=>by show (Go.Sort.putRow _ w (ρ.blk b) 0 dk).heap[b']?=_; rw[hmod,Array.getElem?_modify,if_neg (fun e=>hb' e.symm)]) rfl rfl rfl
 rw[hu1]at hR
 have:=hR _ _ hst rfl
 simpa[Ren.val,Ren.dJ]using this
set_option maxRecDepth 100000
def No (H:aa) (v:Value) (l:List UInt8) (out:Out) (X:aa):Prop:=Mod (ae v) H X/\∃ u,out=.ok u/\du X 5 1 u (ay l) l.length/\∀ n∈ae u,n∈ae v\/H.next<=n
theorem Ci (n:Nat) (h:n<=9999):Go.Lib.decDigits n=gD n:=by
 have e:∀ k,Go.Lib.decDigits k=if k<10 then [UInt8.ofNat (48+k)] else Go.Lib.decDigits (k / 10)++[UInt8.ofNat (48+k % 10)]:=fun k=>by
  rw[Go.Lib.decDigits]
  split<;>rfl
 unfold gD dg
 by_cases h1:n<10
 ·rw[if_pos h1,e,if_pos h1]
 rw[if_neg h1,e n,if_neg h1]
 by_cases h2:n<100
 ·rw[if_pos h2,e,if_pos (by omega)]
  rfl
 rw[if_neg h2,e (n / 10),if_neg (by omega)]
 by_cases h3:n<1000
 ·rw[if_pos h3,e,if_pos (by omega),Nat.div_div_eq_div_mul]
  rfl
 rw[if_neg h3,e (n / 10 / 10),if_neg (by omega),e,if_pos (by omega)]
 simp only[Nat.div_div_eq_div_mul,zE7,zC1]
theorem ji (a b:List UInt8):ay (a++b)=ay a++ay b:=by simp[ay]
theorem vd (a:List UInt8):(ay a).all one=true:=by simp[ay,one]
theorem nh (n:Nat) (a:List UInt8):aO n (ay a)=true:=by
 rw[bL]
 intro v' hv'
 obtain⟨w',_,rfl⟩:=zB5.1 hv'
 rfl
theorem hJ (a:List UInt8):(ay a).length=a.length:=by simp[ay]
def B4:List UInt8:=List.replicate 24 0
theorem Lq (H:aa) (t:Pow H) (v:Value) (l:List UInt8) (u:Nat) (hv:du H 5 1 v (ay l) l.length) (hl:l.length<=3500000) (hu:u<=9999) (hok:H.base<=H.next) :
  bF Tryz.prog 152 [v,.int .u64 u,.int .i64 10] H (No H v (l++gD u)):=by
 have a1:Tryz.prog.underlying 25=some (.slice 5):=by kernel_rfl
 have a2:bh Tryz.prog 5=some 1:=by kernel_rfl
 have a3:bytesOf Tryz.prog 5=some 1:=by kernel_rfl
 have a4:zeroOf Tryz.prog 5=some (.int .u8 0):=by kernel_rfl
 have a5:fj Tryz.prog 9=some false:=by kernel_rfl
 have a6:fj Tryz.prog 25=some false:=by kernel_rfl
 have cvu:∀ X,cj Tryz.prog X 173 3 (.int .u64 (u:Int))=some (.int .i64 (IntKind.i64.wrap (u:Int)),X):=fun X=>iL (u:=.int .u64) (by kernel_rfl) (by kernel_rfl)
 have w1:IntKind.i64.wrap (u:Int)=(u:Int):=by rw[IntKind.wrap_i64]; omega
 have hl0:0<(gD u).length:=by unfold gD; split<;>(try split)<;>(try split)<;>simp
 have hl4:(gD u).length<=4:=by unfold gD; split<;>(try split)<;>(try split)<;>simp
 obtain⟨b,hb⟩:=Go.Ax.bP H.next
 obtain⟨va,ev⟩:=hv.len
 refine aG mixed Tryz.func152 rfl Tryz.ntmps152 (zA6 rfl) ?_
 have hT:∀ i:Decidable True,@decide True i=true:=fun i=>by simp
 have okE:∀ {X:aa} {n:Nat} {vv:Value},du X 5 1 vv (ay (l++gD u)) n->n=l.length+(gD u).length->du X 5 1 vv (ay (l++gD u)) (l++gD u).length:=fun h e=>by
  rw[zB4,<-e]
  exact h
 by_cases h100:u<100
 ·have hd:decide ((u:Int)<100)=true:=decide_eq_true (by omega)
  have hz:(ByteArray.mk (gD u).toArray).size=(gD u).length:=by simp[ByteArray.size]
  obtain⟨G,g1,g2,g3,g4⟩:=H7 (P:=Tryz.prog) (st:=25) (xt:=9) (e:=5) (by1:=1) (z:=.int .u8 0) (s:=⟨(gD u).toArray⟩) a1 a2 a3 a4 rfl a5 hv (by rw[hz]; exact hl0) (by rw[hz]; simp only[small,zA4,zE6]; omega) hb (nh _ _)
  simp only[hd,hT,bQ,cvu,w1,zW,seval]
  refine (Oy (ext H []) u h100).to ?_
  rw[Ci u hu]
  rw[show H=ext H [] from rfl]at g1
  simp only[g1,Tryz.results152,zW,seval]
  refine⟨g3 hok,_,rfl,okE (by rw[ji]; exact g2) (by rw[hz]),fun n hn=>.inr ?_⟩
  simp only[ae,zA5]at hn
  omega
 ·have hd:decide ((u:Int)<100)=false:=decide_eq_false (by omega)
  simp only[hb,hd,hT,zW,seval]
  obtain⟨H1,hH1⟩:=Go.Ax.bP (ext H [⟨189,false,ay B4⟩])
  have m1:Mod [] H H1:=hH1▸Mod.ext hok
  have n1:H1.next=b+1:=by rw[<-hH1,ai,hb]; rfl
  have b1:bk H1 b=some ⟨189,false,ay B4⟩:=by rw[<-hH1,show b=b+0 from rfl,bu hb (by simp)]; rfl
  have t1:=t.mod m1 (by simp)
  obtain⟨n,hn⟩:=Go.Ax.bP (Go.Lib.nDigits u)
  have hn4:n=(gD u).length:=by rw[<-hn,<-Go.Lib.decDigits_length,Ci u hu]
  refine (PW _ (show Pow _ from hH1▸t1) u (by omega) (by omega)).to ?_
  rw[hn]
  have sl:∀ X,cg Tryz.prog X 189 (.pointer (some ⟨b+0,0,none⟩)) none (some (.int .i64 (n:Int))) none=some (.slice (some ⟨b,0,some 0⟩) n 24,X):=fun X=>by
   have ua:Tryz.prog.underlying 189=some (.array 24 5):=by kernel_rfl
   simp only[cg,ua,bound,a2,zA1,zA3]
   rw[if_pos (Int.natCast_nonneg n),zA3,zG6,if_pos ⟨by omega,zB7 _,trivial⟩]
   rfl
  simp only[sl,zW,seval]
  refine (show br Tryz.prog 165 [.slice (some ⟨b,0,some 0⟩) n 24,.int .u64 (u:Int)] _ _ _ from hH1▸RA H1 b n u 24 B4 189 b1 hn.symm (by simp only[B4,zE4]; omega) (by omega) (by simp[B4])).to ?_
  rw[hH1]
  obtain⟨H2,hH2⟩:=Go.Ax.bP (uw H1 b 0 (ay (Go.Lib.decDigits u)))
  have m2:Mod [b] H1 H2:=hH2▸Mod.uw (by simp)
  have n2:H2.next=b+1:=by rw[<-hH2,b6,n1]
  rw[Ci u hu]at hH2 ⊢
  have b2:bk H2 b=some ⟨189,false,cL (ay B4) 0 (ay (gD u))⟩:=by rw[<-hH2,bR,b1]; rfl
  have hvb:∀ q∈ae v,q<b:=fun q hq=>hb▸(hv.ne q hq).2
  have v2:du H2 5 1 v (ay l) l.length:=hv.of (by omega) fun q hq=>by
   have:=hvb q hq
   rw[m2.get q (by omega) (by simp only[zA5]; omega),m1.get q (by omega) (by simp)]
  obtain⟨G,g1,g2,g3,g4,g5⟩:=ta (P:=Tryz.prog) (st:=25) (xt:=25) (e:=5) (sz:=1) (by1:=1) (z:=.int .u8 0) (off:=0) (cap:=24) (s:=some 0) (cnt2:=n) (ws:=ay (gD u)) a1 a2 a3 a4 rfl a6 v2 (jR b2) (by simp only[jP,hJ,B4,zE4]; omega) (by
   have h1:cL (ay B4) 0 (ay (gD u))=_:=oW _ _ _ (by simp only[hJ,B4,zE4]; omega)
   simp only[h1,tE,List.take_zero,zC1,zD1,zE8]
   rw[List.take_append_of_le_length (by rw[hJ]; omega)]
   exact zD6 (by rw[hJ]; omega)) (vd _) (by omega) (by simp only[small,zA4,zE6]; omega) n2 (by rw[<-ji]; exact nh _ _)
  rw[hH2,show H2=ext H2 [] from rfl]
  rw[show H2=ext H2 [] from rfl]at g1
  simp only[sl,g1,Tryz.results152,zW,seval]
  refine⟨?_,_,rfl,okE (by rw[ji]; exact g2) (by omega),fun q hq=>.inr ?_⟩
  ·have m12:Mod [] H H2:=m1.step m2 hok fun q hq=>.inr (by simp only[zA5]at hq; omega)
   exact (m12.mono (by simp)).trans (g3 (m12.ok hok))
  ·simp only[ae,zA5]at hq
   omega
theorem GV (H:aa) (t:Pow H) (v:Value) (l:List UInt8) (u:Nat) (hv:du H 5 1 v (ay l) l.length) (hl:l.length<=3500000) (hu:u<=9999) (hok:H.base<=H.next) :
  bF Tryz.prog 87 [v,.int .i64 u,.int .i64 10] H (No H v (l++gD u)):=by
 obtain⟨va,ev⟩:=hv.len
 obtain⟨b,hb⟩:=Go.Ax.bP H.next
 have cvu:∀ X,cj Tryz.prog X 2 173 (.int .i64 (u:Int))=some (.int .u64 (IntKind.u64.wrap (u:Int)),X):=fun X=>iL (u:=.int .i64) (by kernel_rfl) (by kernel_rfl)
 have w1:IntKind.u64.wrap (u:Int)=(u:Int):=by rw[IntKind.wrap_u64]; omega
 have hd:decide ((u:Int)<0)=false:=decide_eq_false (by omega)
 have key:bF Tryz.prog 121 [v,.int .i64 u,.int .i64 10] H (No H v (l++gD u)):=by
  refine aG mixed Tryz.func121 rfl Tryz.ntmps121 (zA6 rfl) ?_
  simp only[hd,bQ,cvu,w1,zW,seval]
  refine (Lq (ext H []) t v l u hv hl hu hok).mono ?_
  rintro out X ⟨m,w,rfl,h1,h2⟩
  obtain⟨wa,ew⟩:=h1.len
  rw[show X=ext X [] from rfl]
  simp only[Tryz.results121,zW,seval]
  exact⟨m,w,rfl,h1,h2⟩
 refine aG mixed Tryz.func87 rfl Tryz.ntmps87 (zA6 rfl) ?_
 simp only[zW,seval]
 refine (show bF Tryz.prog 121 _ (ext H []) _ from key).mono ?_
 rintro out X ⟨m,w,rfl,h1,h2⟩
 rw[show X=ext X [] from rfl]
 simp only[Tryz.results87,zW,seval]
 exact⟨m,w,rfl,h1,h2⟩
end Go.Proofs.YtpohjcacnkhnkaaGreatDoor.Tq
namespace Go.Ax
variable {P : Program} {H X : aa} {f : FuncId} {args : List Value}
end Go.Ax
namespace Go.Ax
open Go.ChangeShapes
section
variable {P : Program} {ρ : Ren} {H : aa} {w : World}
def As (e:TypeId) (vs:List Value):dw:=⟨.cells #[] e (1,0),true,RV.ofList vs⟩
theorem xq {e:TypeId} {vs:List Value}:Fz (some (As e vs)):=⟨_,rfl,rfl⟩
def QR (H:aa) (e:TypeId) (vs:List Value):aa:=⟨ek H.root H.next (some (As e vs)),H.next+1,H.next+1,H.dirty⟩
theorem nS {e:TypeId} {vs:List Value} (m:Nat):(QR H e vs).get m=if m=H.next then some (As e vs) else H.get m:=lj _ _ _ _
theorem Qm {e:TypeId} {vs:List Value}:rk (QR H e vs) H.next=some ⟨e,true,vs⟩:=by
 rw[G4]
 simp only[aR,nS,if_true,As,zA9,RV.n_ofList,RV.jA]
def y7:Value->Bool
 |.int .u8 _=>true
 |.int .u64 _=>true
 |_=>false
structure Ro (P:Program) (ρ:Ren) (H:aa) (w:World):Prop where
 rel:Rel P ρ H w
 base:H.base=H.next
 dirty:H.dirty=[]
 al:∀ n,H.get n≠none->Fz (H.get n)\/n<P.globals.size/\∃ c e,w.heap[n]?=some (.cells c e (0,0))/\∀ v∈c.toList,y7 v=true
structure K1 (H H1:aa):Prop where
 next:H.next<=H1.next
 get:∀ n,n<H.next->H1.get n=H.get n
theorem K1.refl:K1 H H:=⟨zA8 _,fun _ _=>rfl⟩
theorem Ro.add (R:Ro P ρ H w) {b off:Nat} {e:TypeId} {c:Array Value} {fz:Nat × Nat} {vs:List Value} (hb:w.heap[b]?=some (.cells c e fz)) (hc:∀ i,i<vs.length->c[off+i]?=some (ρ.val (vs.getD i undef)))
  (hs:aO H.next vs=true) (h0:∃ i,i<vs.length/\y7 (ρ.val (vs.getD i undef))=false):Ro P (ρ.at H.next b off 0) (QR H e vs) w/\Ext H.next ρ (ρ.at H.next b off 0)/\K1 H (QR H e vs):=by
 have ex:=Ren.gN ρ H.next b off 0
 have r:=R.rel
 have hal:∀ n,H.get n≠none->ρ.blk n=b->Fz (H.get n):=fun n hn he=>by
  rcases R.al n hn with h|⟨hg,c',e',h1,h2⟩
  ·exact h
  ·rw[(r.glob.2 n hg).1]at he
   subst he
   rw[hb]at h1
   simp only[Option.some.injEq,Obj.cells.injEq]at h1
   obtain⟨i,hi,hu⟩:=h0
   have h3:=hc i hi
   rw[h1.1]at h3
   have:=h2 _ (Array.mem_toList_iff.2 (Array.mem_of_getElem? h3))
   rw[hu]at this
   cases this
 have hgr:K1 H (QR H e vs):=⟨Nat.le_succ _,fun n hn=>by rw[nS,if_neg (by omega)]⟩
 refine⟨⟨⟨zA8 _,⟨Nat.le_succ_of_le r.glob.1,fun g hg=>?_⟩,fun m n hm hn he=>?_,fun n o hn=>?_,fun n o hn=>?_⟩,rfl,R.dirty,fun n hn=>?_⟩,ex,hgr⟩
 ·have:=r.glob.1
  rw[ex.blk g (by omega),ex.sh g (by omega)]; exact r.glob.2 g hg
 ·rw[nS]at hm hn ⊢
  rw[nS]
  by_cases h1:m=H.next<;>by_cases h2:n=H.next
  ·exact .inl (h1.trans h2.symm)
  ·rw[if_neg h2]at hn
   rw[if_pos h1,if_neg h2]
   subst h1
   rw[Ren.at_blk,ex.blk n (r.lt hn)]at he
   exact .inr ⟨xq,hal n hn he.symm⟩
  ·rw[if_neg h1]at hm
   rw[if_neg h1,if_pos h2]
   subst h2
   rw[Ren.at_blk,ex.blk m (r.lt hm)]at he
   exact .inr ⟨hal m hm he,xq⟩
  ·rw[if_neg h1]at hm
   rw[if_neg h2]at hn
   rw[if_neg h1,if_neg h2]
   rw[ex.blk m (r.lt hm),ex.blk n (r.lt hn)]at he
   exact r.inj m n hm hn he
 ·rw[nS]at hn
  by_cases h:n=H.next
  ·rw[if_pos h]at hn
   cases hn
   subst h
   refine⟨zD9 _,?_⟩
   simp only[ki,As,RV.n_ofList,RV.cb]
   intro i hi
   exact cM (Nat.le_succ _) _ (bL.1 hs _ (by simp[List.getD,hi]))
  ·rw[if_neg h]at hn
   have:=r.dom n o hn
   exact⟨Nat.lt_succ_of_lt this.1,this.2.mono (Nat.le_succ _)⟩
 ·rw[nS]at hn
  by_cases h:n=H.next
  ·rw[if_pos h]at hn
   cases hn
   subst h
   refine⟨_,by rw[Ren.at_blk]; exact hb,?_⟩
   simp only[Fits,As]
   refine⟨c,fz,rfl,fun i hi=>?_,fun h=>(by cases h),fun _ h=>(by cases h)⟩
   simp only[RV.n_ofList]at hi
   rw[RV.cb,Ren.at_sh,gE ex _ (bL.1 hs _ (by simp[List.getD,hi])),Nat.add_comm]
   exact hc i hi
  ·rw[if_neg h]at hn
   obtain⟨o',h1,h2⟩:=r.obj n o hn
   have hd:=r.dom n o hn
   exact⟨o',by rw[ex.blk n hd.1]; exact h1,h2.ext hd.1 hd.2 ex⟩
 ·rw[nS]at hn ⊢
  by_cases h:n=H.next
  ·rw[if_pos h]; exact .inl xq
  ·rw[if_neg h]at hn ⊢
   exact R.al n hn
theorem Ro.Nf (R:Ro P ρ H w) {ρ':Ren} (ex:Ext H.next ρ ρ'):Ro P ρ' ⟨H.root,H.next+1,H.next+1,H.dirty⟩ w/\K1 H ⟨H.root,H.next+1,H.next+1,H.dirty⟩:=by
 have r:=R.rel
 have hg:∀ n,(⟨H.root,H.next+1,H.next+1,H.dirty⟩:aa).get n=H.get n:=fun n=>rfl
 refine⟨⟨⟨zA8 _,⟨Nat.le_succ_of_le r.glob.1,fun g hg=>?_⟩,fun m n hm hn he=>?_,fun n o hn=>?_,fun n o hn=>?_⟩,rfl,R.dirty,fun n hn=>R.al n hn⟩,Nat.le_succ _,fun n _=>rfl⟩
 ·have:=r.glob.1
  rw[ex.blk g (by omega),ex.sh g (by omega)]; exact r.glob.2 g hg
 ·rw[hg]at hm hn
  rw[ex.blk m (r.lt hm),ex.blk n (r.lt hn)]at he
  exact r.inj m n hm hn he
 ·have:=r.dom n o hn
  exact⟨Nat.lt_succ_of_lt this.1,this.2.mono (Nat.le_succ _)⟩
 ·obtain⟨o',h1,h2⟩:=r.obj n o hn
  have hd:=r.dom n o hn
  exact⟨o',by rw[ex.blk n hd.1]; exact h1,h2.ext hd.1 hd.2 ex⟩
theorem Ro.skip (R:Ro P ρ H w) (b off:Nat):Ro P (ρ.at H.next b off 0) ⟨H.root,H.next+1,H.next+1,H.dirty⟩ w/\Ext H.next ρ (ρ.at H.next b off 0)/\K1 H ⟨H.root,H.next+1,H.next+1,H.dirty⟩ :=
 ⟨(R.Nf (Ren.gN ρ H.next b off 0)).1,Ren.gN ρ H.next b off 0,(R.Nf (Ren.gN ρ H.next b off 0)).2⟩
def Ren.RW (ρ:Ren) (n b s j:Nat):Ren:=⟨fun m=>if m=n then b else ρ.blk m,fun m=>if m=n then s else ρ.sh m,fun m=>if m=n then 0 else ρ.ex m,fun m=>if m=n then .int .i64 j else ρ.op m,fun m=>by
 by_cases h:m=n
 ·simp only[h,if_true]; rfl
 ·simp only[h,if_false]; exact ρ.op1 m⟩
theorem Ren.Ig (ρ:Ren) (n b s j:Nat):Ext n ρ (ρ.RW n b s j) :=
 ⟨fun m h=>if_neg (Nat.ne_of_lt h),fun m h=>if_neg (Nat.ne_of_lt h),fun m h=>if_neg (Nat.ne_of_lt h),fun m h=>if_neg (Nat.ne_of_lt h)⟩
theorem NU {N b off j:Nat}:(ρ.RW N b off j).val (.slice (some ⟨N,0,some 1⟩) 0 0)=.slice (some ⟨b,off,some j⟩) 0 0:=by
 simp[Ren.val,Ren.RW,Ren.nU,Ren.zc,Ren.oP,Sh]
def P9 (H:aa) (sz:Nat) (u:Value) (vs:List Value) (len:Nat):Prop :=
 vs.length=len*sz/\∃ a cap,u=.slice a len cap/\(len=0\/∃ n e,a=some ⟨n,0,some 0⟩/\n<H.next/\rk H n=some ⟨e,true,vs⟩/\len<=cap)
theorem MH {N b off len cap:Nat}:(ρ.at N b off 0).val (.slice (some ⟨N,0,some 0⟩) len cap)=.slice (some ⟨b,off,none⟩) len cap:=by
 simp[Ren.val,Ren.at_blk,Ren.at_sh]
def RS (u:Value):Prop:=∃ a len cap,u=.slice a len cap/\len<=cap/\(a=none/\len=0\/(∃ n,a=some ⟨n,0,some 0⟩)\/len=0/\∃ n,a=some ⟨n,0,some 1⟩)
theorem Ro.RK (R:Ro P ρ H w) {sz len cap b off:Nat} {sp:Option Nat} (hspot:sp=none\/len=0/\cap=0) {vs:List Value} (hlen:vs.length=len*sz)
  (hcell:len=0\/∃ c e fz,w.heap[b]?=some (.cells c e fz)/\∀ i,i<vs.length->c[off+i]?=some (ρ.val (vs.getD i undef))) (hs:aO H.next vs=true) (h0:len=0\/∃ i,i<vs.length/\y7 (ρ.val (vs.getD i undef))=false) (hlc:len<=cap) :
  ∃ ρ1 H1 u,Ro P ρ1 H1 w/\Ext H.next ρ ρ1/\K1 H H1/\ρ1.val u=.slice (some ⟨b,off,sp⟩) len cap/\aS H1.next u=true/\P9 H1 sz u vs len/\RS u:=by
 by_cases hz:len=0
 ·cases sp with
  |none =>
   obtain⟨k1,k2,k3⟩:=R.skip b off
   exact⟨_,_,.slice (some ⟨H.next,0,some 0⟩) len cap,k1,k2,k3,MH,a8 (zD9 _),⟨hlen,_,_,rfl,.inl hz⟩,_,_,_,rfl,by omega,.inr (.inl ⟨_,rfl⟩)⟩
  |some j =>
   have hc:cap=0:=by
    rcases hspot with h|h
    ·cases h
    ·exact h.2
   subst hc hz
   obtain⟨k1,k3⟩:=R.Nf (ρ.Ig H.next b off j)
   exact⟨_,_,.slice (some ⟨H.next,0,some 1⟩) 0 0,k1,ρ.Ig H.next b off j,k3,NU,a8 (zD9 _),⟨hlen,_,_,rfl,.inl rfl⟩,_,_,_,rfl,zA8 _,.inr (.inr ⟨rfl,_,rfl⟩)⟩
 ·obtain rfl:sp=none:=by
   rcases hspot with h|h
   ·exact h
   ·exact absurd h.1 hz
  obtain⟨c,e,fz,hb,hc⟩:=hcell.resolve_left hz
  obtain⟨k1,k2,k3⟩:=R.add hb hc hs (h0.resolve_left hz)
  exact⟨_,_,.slice (some ⟨H.next,0,some 0⟩) len cap,k1,k2,k3,MH,a8 (zD9 _),⟨hlen,_,_,rfl,.inr ⟨H.next,e,rfl,zD9 _,Qm,hlc⟩⟩,_,_,_,rfl,hlc,.inr (.inl ⟨_,rfl⟩)⟩
theorem Ro.sl (R:Ro P ρ H w) {sz len cap b off:Nat} {sp:Option Nat} (hspot:sp=none\/len=0/\cap=0) {vs:List Value} (hlen:vs.length=len*sz)
  (hcell:len=0\/∃ c e fz,w.heap[b]?=some (.cells c e fz)/\∀ i,i<vs.length->c[off+i]?=some (ρ.val (vs.getD i undef))) (hs:aO H.next vs=true) (h0:len=0\/∃ i,i<vs.length/\y7 (ρ.val (vs.getD i undef))=false) (hlc:len<=cap) :
  ∃ ρ1 H1 u,Ro P ρ1 H1 w/\Ext H.next ρ ρ1/\K1 H H1/\ρ1.val u=.slice (some ⟨b,off,sp⟩) len cap/\aS H1.next u=true/\P9 H1 sz u vs len:=by
 obtain⟨ρ1,H1,u,k1,k2,k3,k4,k5,k6,_⟩:=R.RK hspot hlen hcell hs h0 hlc
 exact⟨ρ1,H1,u,k1,k2,k3,k4,k5,k6⟩
variable {K : Type} {enc : TypeId × Value -> K} {spare : Nat -> Bool} {held : Bool} {fuel : Nat}
theorem N2 {t e:TypeId} {sz len cap:Nat} {a:Addr} {x:DataW K × List MemPlace} (hsp:∀ b,spare b=true) (ht:P.underlying t=some (.slice e)) (hsz:bh P e=some (sz+1)) (h:DataW.trod enc P w 0 spare held fuel t [.slice (some a) len cap]=some x):a.spot=none\/len=0/\cap=0:=by
 have none_at:∀ y,(w.cells? 0 (a.add 0) (sz+1)).bind y=(none:Option (DataW K × List MemPlace))\/a.spot=none:=fun y=>by
  cases hs:a.spot with
  |none=>exact .inr rfl
  |some j =>
   left
   cases hc:w.cells? 0 (a.add 0) (sz+1) with
   |none=>rfl
   |some cs =>
    unfold World.cells? at hc
    rw[if_pos (zB7 _)]at hc
    obtain⟨v,hv⟩:=Go.Ax.mapM_each hc 0 (by simp)
    simp only[Addr.add,if_true,World.cell?,hs,Option.isSome_some]at hv
    split at hv<;>cases hv
 rcases DataW.trod_slice ht h with⟨h1,_⟩|⟨a',len',cap',elems,rest,n,_,h1,_,_,hle,_,hel,hcells,hrest,_⟩
 ·simp at h1
 ·simp only[List.cons.injEq,Value.slice.injEq,Option.some.injEq,and_true]at h1
  obtain⟨rfl,rfl,rfl⟩:=h1
  rw[bd hsz]at hcells hrest
  rcases Nat.eq_zero_or_pos len with h0|h0
  ·subst h0
   rcases Nat.eq_zero_or_pos cap with hc|hc
   ·exact .inr ⟨rfl,hc⟩
   ·obtain⟨hl,hr⟩:=hrest (hsp _)
    have:=hr 0 (by omega)
    rw[zB8,zF7]at this
    rcases none_at (DataW.trod enc P w 0 spare held n e) with h2|h2
    ·rw[h2,zB1 (by omega)]at this
     cases this
    ·exact .inl h2
  ·have:=hcells 0 h0
   rw[zF7]at this
   rcases none_at (DataW.trod enc P w 0 spare held n e) with h2|h2
   ·rw[h2,zB1 (by omega)]at this
    cases this
   ·exact .inl h2
def Wt (P:Program) (t:TypeId) (d:DataW K):Prop:=∀ n∈d.weights P t,n<=reachBytes
theorem uD {e:TypeId} {n:Nat}:∀ {l:List (DataW K)} {d:DataW K},d∈l->n∈d.weights P e->n∈DataW.weightsAll P e l
 |d'::l,d,h,hn=>by
  rw[DataW.weightsAll,zB2]
  rcases zA7.1 h with rfl|h
  ·exact .inl hn
  ·exact .inr (uD h hn)
theorem Wt.elem {t e:TypeId} {l r:List (DataW K)} {d:DataW K} (ht:P.underlying t=some (.slice e)) (h:Wt P t (.slice l r)) (hd:d∈l):Wt P e d:=fun n hn =>
 h n (by rw[DataW.weights,ht]; exact zC7 _ (List.mem_append_left _ (uD hd hn)))
theorem Wt.len {t e:TypeId} {l r:List (DataW K)} (ht:P.underlying t=some (.slice e)) (h:Wt P t (.slice l r)):l.length*P.bytesOf e<=reachBytes :=
 zC3 (Nat.mul_le_mul_right _ (Nat.le_add_right _ r.length)) (h _ (by rw[DataW.weights,ht]; exact zE5))
theorem Ja {t e:TypeId} {sz b off len cap:Nat} {x:DataW K × List MemPlace} (ht:P.underlying t=some (.slice e)) (hsz:bh P e=some sz) (h:DataW.trod enc P w 0 spare held fuel t [.slice (some ⟨b,off,none⟩) len cap]=some x) :
  ∃ (vs:List Value) (n:Nat),vs.length=len*sz/\(len*sz=0\/∃ c e' fz,w.heap[b]?=some (.cells c e' fz)/\∀ i,i<vs.length->c[off+i]?=some (vs.getD i undef)) /\
   (∀ i,i<len->∃ y,DataW.trod enc P w 0 spare held n e ((vs.drop (i*sz)).take sz)=some y/\(Wt P t x.1->Wt P e y.1)/\∃ l r,x.1=.slice l r/\y.1∈l)/\(Wt P t x.1->len*P.bytesOf e<=reachBytes):=by
 rcases DataW.trod_slice ht h with⟨h1,_⟩|⟨a,len',cap',elems,rest,n,_,h1,hx,_,_,_,hel,hcells,_,_⟩
 ·simp at h1
 ·simp only[List.cons.injEq,Value.slice.injEq,Option.some.injEq,and_true]at h1
  obtain⟨rfl,rfl,rfl⟩:=h1
  rw[bd hsz]at hcells
  have hb1:Wt P t x.1->len*P.bytesOf e<=reachBytes:=fun hw=>by
   rw[hx]at hw
   have:=hw.len ht
   rwa [zD7,hel]at this
  have each:∀ i,i<len->∃ cs y,w.cells? 0 ((⟨b,off,none⟩:Addr).add (i*sz)) sz=some cs/\DataW.trod enc P w 0 spare held n e cs=some y/\(Wt P t x.1->Wt P e y.1)/\∃ l r,x.1=.slice l r/\y.1∈l:=fun i hi=>by
   have:=hcells i hi
   rw[zB1 (by omega)]at this
   obtain⟨cs,h1,h2⟩:=zA2.1 this
   exact⟨cs,_,h1,h2,fun hw=>by
    rw[hx]at hw
    exact hw.elem ht (zB5.2 ⟨_,zG7 _,rfl⟩),_,_,congrArg (·.1) hx,zB5.2 ⟨_,zG7 _,rfl⟩⟩
  by_cases h0:len*sz=0
  ·refine⟨[],n,by simp[h0],.inl h0,fun i hi=>?_,hb1⟩
   obtain⟨cs,y,h1,h2,h3⟩:=each i hi
   have hsz0:sz=0:=by
    rcases Nat.eq_zero_or_pos sz with h|h
    ·exact h
    ·have:=Nat.mul_pos (show 0<len by omega) h; omega
   subst hsz0
   unfold World.cells? at h1
   rw[if_pos (zB7 _)]at h1
   simp at h1
   subst h1
   exact⟨y,by simpa using h2,h3⟩
  ·have hp:0<sz:=Nat.pos_of_ne_zero fun h=>h0 (by rw[h,Nat.mul_zero])
   have cell:∀ i,i<len*sz->∃ v,w.cell? ⟨b,off+i,none⟩=some v:=fun i hi=>by
    have hq:i / sz<len:=(Nat.div_lt_iff_lt_mul hp).2 hi
    obtain⟨cs,y,hcs,_,_⟩:=each _ hq
    unfold World.cells? at hcs
    rw[if_pos (zB7 _)]at hcs
    obtain⟨v,hv⟩:=mapM_each hcs (i % sz) (by simpa using Nat.mod_lt _ hp)
    rw[dR,dR]at hv
    have:off+i / sz*sz+i % sz=off+i:=by rw[Nat.add_assoc,Nat.mul_comm,Nat.div_add_mod]
    rw[this]at hv
    exact⟨v,hv⟩
   obtain⟨v0,hv0⟩:=cell 0 (by omega)
   unfold World.cell? at hv0
   cases hb:w.heap[b]? with
   |none=>simp[hb]at hv0
   |some o =>
    cases o with
    |cells c e' fz =>
     have cell':∀ i,i<len*sz->∃ v,c[off+i]?=some v:=fun i hi=>by
      obtain⟨v,hv⟩:=cell i hi
      simp only[World.cell?,hb]at hv
      exact⟨v,by simpa using hv⟩
     obtain⟨vs,hvs⟩:∃ vs:List Value,vs=(List.range (len*sz)).map fun i=>(c[off+i]?).getD undef:=⟨_,rfl⟩
     have hvl:vs.length=len*sz:=by simp[hvs]
     have hvg:∀ i,i<vs.length->c[off+i]?=some (vs.getD i undef):=fun i hi=>by
      rw[hvl]at hi
      obtain⟨v,hv⟩:=cell' i hi
      simp[hvs,hi,hv,zC8]
     refine⟨vs,n,hvl,.inr ⟨c,e',fz,rfl,hvg⟩,fun i hi=>?_,hb1⟩
     obtain⟨cs,y,hcs,hy,hy2⟩:=each i hi
     have hcs':(vs.drop (i*sz)).take sz=cs:=by
      unfold World.cells? at hcs
      rw[if_pos (zB7 _)]at hcs
      have hin:i*sz+sz<=len*sz:=by rw[<-Nat.succ_mul]; exact Nat.mul_le_mul_right _ hi
      have hr:=mapM_range_of (f:=fun j=>w.cell? (((⟨b,off,none⟩:Addr).add (i*sz)).add j)) (g:=fun j=>vs.getD (i*sz+j) undef) sz (fun j hj=>by
       have h3:=hvg (i*sz+j) (by rw[hvl]; omega)
       rw[dR,dR,Nat.add_assoc]
       simp[World.cell?,hb,h3])
      rw[hr]at hcs
      cases hcs
      apply List.ext_getElem?
      intro j
      by_cases hj:j<sz
      ·rw[List.getElem?_take,if_pos hj,List.getElem?_drop,zF0,List.getElem?_range hj,zB1 (by rw[hvl]; omega)]
       simp only[zA9,zC8]
       rw[zB1 (by rw[hvl]; omega)]
       rfl
      ·rw[zC5 (by simp; omega),zC5 (by simp; omega)]
     rw[hcs']
     exact⟨y,hy,hy2⟩
    |_=>simp[hb]at hv0
end
def oR (H:aa) (sz:Nat) (v:Value) (vs:List Value) (cnt:Nat):Prop :=
 vs.length=cnt*sz/\((cnt=0/\∃ a c,v=.slice a 0 c)\/(0<cnt/\∃ n off s c e o M,v=.slice (some ⟨n,off,s⟩) cnt c/\rk H n=some ⟨e,o,M⟩/\n<H.next/\off+cnt*sz<=M.length/\(M.drop off).take (cnt*sz)=vs))
section
variable {P : Program} {H G : aa} {sz cnt : Nat} {v : Value} {vs : List Value}
theorem oR.sl (h:oR H sz v vs cnt):∃ a c,v=.slice a cnt c:=by
 obtain⟨_,⟨rfl,a,c,rfl⟩|⟨_,n,off,s,c,e,o,M,rfl,_⟩⟩:=h
 ·exact⟨_,_,rfl⟩
 ·exact⟨_,_,rfl⟩
theorem oR.nil {a:Option Addr} {c:Nat}:oR H sz (.slice a 0 c) [] 0:=⟨by simp,.inl ⟨rfl,_,_,rfl⟩⟩
def QK (v:Value) (cnt:Nat):List Nat:=if cnt=0 then [] else ae v
theorem oR.of (h:oR H sz v vs cnt) (hn:H.next<=G.next) (hg:∀ n∈QK v cnt,G.get n=H.get n):oR G sz v vs cnt:=by
 obtain⟨h1,h|⟨h0,n,off,s,c,e,o,M,rfl,h2,h3,h4⟩⟩:=h
 ·exact⟨h1,.inl h⟩
 ·exact⟨h1,.inr ⟨h0,n,off,s,c,e,o,M,rfl,(nf (hg n (by rw[QK,if_neg (by omega)]; simp[ae]))).trans h2,by omega,h4⟩⟩
theorem oR.ne (h:oR H sz v vs cnt):∀ n∈QK v cnt,H.get n≠none/\n<H.next:=by
 obtain⟨h1,⟨rfl,a,c,rfl⟩|⟨h0,n,off,s,c,e,o,M,rfl,h2,h3,h4⟩⟩:=h
 ·intro n hn; simp[QK]at hn
 ·intro m hm
  rw[QK,if_neg (by omega)]at hm
  simp only[ae,zA5]at hm
  subst hm
  exact⟨L3 h2,h3⟩
theorem oR.at_ (h:oR H sz v vs cnt) {i:Nat} (hi:i<cnt):∃ n off s c e o M,v=.slice (some ⟨n,off,s⟩) cnt c/\n<H.next/\rk H n=some ⟨e,o,M⟩/\off+i*sz+sz<=M.length/\(M.drop (off+i*sz)).take sz=(vs.drop (i*sz)).take sz:=by
 obtain⟨h1,⟨rfl,_⟩|⟨h0,n,off,s,c,e,o,M,rfl,h2,h3,h4,h5⟩⟩:=h
 ·omega
 have hm:i*sz+sz<=cnt*sz:=by rw[<-Nat.succ_mul]; exact Nat.mul_le_mul_right _ hi
 refine⟨n,off,s,c,e,o,M,rfl,h3,h2,by omega,?_⟩
 rw[<-h5,List.drop_take,zG3,List.take_take,Nat.min_eq_left (by omega)]
theorem oR.one (h:oR H 1 v vs cnt) {i:Nat} (hi:i<cnt):∃ n off s c e o M,v=.slice (some ⟨n,off,s⟩) cnt c/\n<H.next/\rk H n=some ⟨e,o,M⟩/\M[off+i]?=vs[i]?:=by
 obtain⟨n,off,s,c,e,o,M,h1,h2,h3,h4,h5⟩:=h.at_ hi
 refine⟨n,off,s,c,e,o,M,h1,h2,h3,?_⟩
 rw[zE8]at h5
 have:=congrArg (fun l=>l[0]?) h5
 simpa using this
theorem RC {t e:TypeId} {k:IntKind} {i n off len cap:Nat} {s:Option Nat} (hu:P.underlying t=some (.slice e)) (hs:bh P e=some sz) (hi:i<len) :
  aP P t (.slice (some ⟨n,off,s⟩) len cap) (.int k (i:Int))=some (.pointer (some ⟨n,off+i*sz,none⟩)):=by
 simp only[aP,hu,hs,zA1,zA3,zG6]
 rw[if_pos ⟨by omega,by omega⟩]
end
section
variable {P : Program}
end
section
variable {P : Program} {H : aa} {N : Nat} {E : Env} {ds : List Deferred} {ops : Array Oper} {rest : List Oper} {ty : TypeId} {pos : String} {after : Array Edge} {d i : Nat} {fps : List Fp} {anc : List Nat} {Q : ag -> aa -> Prop}
end
end Go.Ax
namespace Go.Proofs.YtpohjcacnkhnkaaGreatDoor.Tq
open Go.Ax
abbrev Pure (f:FuncId) (args:List Value) (H:aa) (v:Value):Prop:=br Tryz.prog f args H (.ok v) H
abbrev QW (n:Int):Int:=IntKind.i64.wrap n
theorem aQ {n:Int} (h1:-4000000000000<n) (h2:n<4000000000000):QW n=n:=by
 simp only[QW,IntKind.wrap,IntKind.signed,IntKind.bits]
 simp
 omega
theorem bO {k:Nat} (h:k<1000000):IntKind.i64.wrap ((k:Int)+1)=((k+1:Nat):Int):=by
 have:=aQ (n:=(k:Int)+1) (by omega) (by omega)
 rw[show IntKind.i64.wrap ((k:Int)+1)=_ from this]; omega
def Ce.cells (c:Ce):List Value:=[.int .i64 c.rune,.int .i64 c.look.fore,.int .i64 c.look.back,.bool c.look.bold,.bool c.look.under,.bool c.look.inv]
def Ce.val (c:Ce):Value:=.agg #[.int .i64 c.rune,.int .i64 c.look.fore,.int .i64 c.look.back,.bool c.look.bold,.bool c.look.under,.bool c.look.inv]
def aN (l:List Ce):List Value:=l.flatMap Ce.cells
theorem bU (c:Ce) (l:List Ce):aN (c::l)=c.cells++aN l:=rfl
theorem gh (l m:List Ce):aN (l++m)=aN l++aN m:=by simp[aN]
theorem bC (l:List Ce):(aN l).length=l.length*6:=by
 induction l with
 |nil=>rfl
 |cons c l ih=>rw[bU,zB4,ih]; simp[Ce.cells]; omega
theorem r9 (l:List Ce):(aN l).all one=true:=by
 induction l with
 |nil=>rfl
 |cons c l ih=>rw[bU,List.all_append,ih]; rfl
theorem jv (l:List Ce) (n:Nat):aO n (aN l)=true:=by
 induction l with
 |nil=>rfl
 |cons c l ih =>
  rw[bU]
  simp only[Ce.cells,zE7,zC1,aO,aS,ih,zE3]
theorem tH (l:List Ce) (k:Nat):(aN l).take (k*6)=aN (l.take k):=by
 induction l generalizing k with
 |nil=>simp[aN]
 |cons c l ih =>
  cases k with
  |zero=>simp[aN]
  |succ k=>rw[bU,List.take_succ_cons,bU,show (k+1)*6=c.cells.length+k*6 by simp[Ce.cells]; omega,List.take_append,zD6 (by omega),zF8,ih]
theorem pO (l:List Ce) (k:Nat):(aN l).drop (k*6)=aN (l.drop k):=by
 induction l generalizing k with
 |nil=>simp[aN]
 |cons c l ih =>
  cases k with
  |zero=>simp[aN]
  |succ k=>rw[bU,List.drop_succ_cons,show (k+1)*6=c.cells.length+k*6 by simp[Ce.cells]; omega,List.drop_append,zF1 (by omega),zC1,zF8,ih]
theorem NJ {l:List Ce} {k:Nat} {c:Ce} (h:l[k]?=some c):((aN l).drop (k*6)).take 6=c.cells:=by
 rw[pO]
 have:=tH (l.drop k) 1
 rw[Nat.one_mul]at this
 rw[this]
 have h2:(l.drop k).take 1=[c]:=by
  rw[List.take_one,List.head?_drop,h]; rfl
 rw[h2]
 rfl
theorem AU {l:List Ce} {k:Nat} {c:Ce} (h:l[k]?=some c):(aN l)[k*6]?=some (.int .i64 c.rune):=by
 have:=NJ h
 have h2:(((aN l).drop (k*6)).take 6)[0]?=some (.int .i64 c.rune):=by rw[this]; rfl
 simpa using h2
theorem rT (pre new fX:List Ce) (h:new.length<=fX.length):cL (aN (pre++fX)) (pre.length*6) (aN new)=aN (pre++(new++fX.drop new.length)):=by
 have e:pre.length*6=(aN pre).length:=(bC pre).symm
 rw[gh,e,nH _ _ _ (by rw[bC,bC]; omega),bC,pO,gh,gh]
theorem jD (l:List Ce) (k:Nat) (c:Ce) (h:k<l.length):cL (aN l) (k*6) c.cells=aN (l.set k c):=by
 have h1:=rT (l.take k) [c] (l.drop k) (by simp; omega)
 rw[zG8,List.length_take,Nat.min_eq_left (by omega)]at h1
 have h2:aN [c]=c.cells:=by simp[aN]
 rw[h2]at h1
 rw[h1,List.set_eq_take_append_cons_drop,if_pos h]
 simp[zG3]
theorem Ra:eX Tryz.prog 77=some true:=by kernel_rfl
theorem Rt:bh Tryz.prog 77=some 6:=by kernel_rfl
theorem iG {len cap n:Nat} {s:Option Nat} {i:Int} {k:Nat} (hi:i=k) (hk:k<len):aP Tryz.prog 56 (.slice (some ⟨n,0,s⟩) len cap) (.int .i64 i)=some (.pointer (some ⟨n,k*6,none⟩)):=by
 subst hi
 rw[gl (e:=77) (sz:=6) (by kernel_rfl) (by kernel_rfl) (by omega) (by omega)]
 simp
theorem sG {len cap n:Nat} {s:Option Nat} {i:Int} {k:Nat} (hi:i=k) (hk:k<len):aP Tryz.prog 39 (.slice (some ⟨n,0,s⟩) len cap) (.int .i64 i)=some (.pointer (some ⟨n,k,none⟩)):=by
 subst hi
 rw[gl (e:=56) (sz:=1) (by kernel_rfl) (by kernel_rfl) (by omega) (by omega)]
 simp
theorem IJ {len cap n off:Nat} {s:Option Nat} {i:Int} {k:Nat} (hi:i=k) (hk:k<len):aP Tryz.prog 25 (.slice (some ⟨n,off,s⟩) len cap) (.int .i64 i)=some (.pointer (some ⟨n,off+k,none⟩)):=by
 subst hi
 rw[gl (e:=5) (sz:=1) (by kernel_rfl) (by kernel_rfl) (by omega) (by omega)]
 simp
theorem KW {len cap n off:Nat} {s:Option Nat} {i:Int} {k:Nat} (hi:i=k) (hk:k<len):aP Tryz.prog 22 (.slice (some ⟨n,off,s⟩) len cap) (.int .i64 i)=some (.pointer (some ⟨n,off+k,none⟩)):=by
 subst hi
 rw[gl (e:=3) (sz:=1) (by kernel_rfl) (by kernel_rfl) (by omega) (by omega)]
 simp
abbrev jU (c:UInt8):Value:=.int .u8 (c.toNat:Int)
theorem uF (c:UInt8) (l:List UInt8):ay (c::l)=jU c::ay l:=rfl
theorem qj (l m:List UInt8):ay (l++m)=ay l++ay m:=by simp[ay]
theorem eU (l:List UInt8):(ay l).length=l.length:=by simp[ay]
theorem xS (l:List UInt8) (k:Nat):(ay l)[k]?=l[k]?.map jU:=by simp[ay]
theorem Fy (l:List UInt8):(ay l).all one=true:=by simp[ay,one]
theorem AW (l:List UInt8) (n:Nat):aO n (ay l)=true:=by
 induction l with
 |nil=>rfl
 |cons c l ih=>simp only[uF,aO,aS,ih,zE3]
def cK (H:aa) (v:Value) (l:List UInt8):Prop :=
 (l=[]/\v=.slice none 0 0) \/
 (l≠[]/\∃ n pre,v=.slice (some ⟨n,List.length pre,none⟩) l.length l.length/\bk H n=some ⟨5,true,ay (pre++l)⟩) \/
 (l=[]/\∃ n off k L,v=.slice (some ⟨n,off,some (k+1)⟩) 0 0/\bk H n=some ⟨5,true,L⟩/\off<=L.length) \/
 (l=[]/\∃ n,v=.slice (some ⟨n,0,some 0⟩) 0 0/\bk H n=some ⟨5,false,[]⟩)
theorem cK.sl {H:aa} {v:Value} {l:List UInt8} (h:cK H v l):∃ a,v=.slice a l.length l.length:=by
 rcases h with⟨rfl,rfl⟩|⟨_,n,pre,rfl,_⟩|⟨rfl,n,off,k,L,rfl,_⟩|⟨rfl,n,rfl,_⟩<;>exact⟨_,rfl⟩
theorem cK.of {H G:aa} {v:Value} {l:List UInt8} (h:cK H v l) (hg:∀ n∈ae v,G.get n=H.get n):cK G v l:=by
 rcases h with⟨rfl,rfl⟩|⟨h,n,pre,rfl,hb⟩|⟨rfl,n,off,k,L,rfl,hb,hle⟩|⟨rfl,n,rfl,hb⟩
 ·exact .inl ⟨rfl,rfl⟩
 ·exact .inr (.inl ⟨h,n,pre,rfl,(bg (hg n (by simp[ae]))).trans hb⟩)
 ·exact .inr (.inr (.inl ⟨rfl,n,off,k,L,rfl,(bg (hg n (by simp[ae]))).trans hb,hle⟩))
 ·exact .inr (.inr (.inr ⟨rfl,n,rfl,(bg (hg n (by simp[ae]))).trans hb⟩))
theorem cK.ne {H:aa} {v:Value} {l:List UInt8} (h:cK H v l):∀ n∈ae v,H.get n≠none:=by
 rcases h with⟨rfl,rfl⟩|⟨h,n,pre,rfl,hb⟩|⟨rfl,n,off,k,L,rfl,hb,hle⟩|⟨rfl,n,rfl,hb⟩<;>intro m hm<;>simp only[ae,zA5,zD2]at hm
 all_goals (subst hm; exact dT hb)
theorem cK.get {H:aa} {v:Value} {l:List UInt8} (h:cK H v l) {k:Nat} {c:UInt8} (hk:l[k]?=some c):∃ n off,aP Tryz.prog 25 v (.int .i64 (k:Int))=some (.pointer (some ⟨n,off,none⟩))/\n∈ae v/\∀ q,oL Tryz.prog 5 off (EO (bk H n) q)=some (jU c):=by
 have hlt:k<l.length:=by
  rcases zC2 k l.length with h'|h'
  ·exact h'
  ·rw[zC5 h']at hk; cases hk
 rcases h with⟨rfl,rfl⟩|⟨h,n,pre,rfl,hb⟩|⟨rfl,n,off,_,L,rfl,hb,_⟩|⟨rfl,n,rfl,hb⟩
 ·simp at hlt
 ·have h1:eX Tryz.prog 5=some false:=by kernel_rfl
  refine⟨n,pre.length+k,IJ rfl hlt,by simp[ae],fun q=>?_⟩
  rw[hb,iM,kF h1,xS,List.getElem?_append_right (by omega),zF8,hk]
  rfl
 ·simp at hlt
 ·simp at hlt
end Go.Proofs.YtpohjcacnkhnkaaGreatDoor.Tq
