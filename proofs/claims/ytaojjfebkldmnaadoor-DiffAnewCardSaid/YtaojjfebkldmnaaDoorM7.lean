/- Parts of the proof, one behind the other. -/
import Derived.Test.YtaojjfebkldmnaaDoorM6
import Derived.Test.YtaojjfebkldmnaaDoorM3
import Derived.Test.YtaojjfebkldmnaaDoorM4
set_option linter.all false
set_option maxRecDepth 10000
set_option maxHeartbeats 16000000
open And renaming intro → zA0
open Option renaming bind_eq_bind → zA1, bind_eq_some_iff → zA2, bind_some → zA3, map_some → zA7, map_eq_some_iff → zB0
open Nat renaming le_refl → zA4, le_of_ble_eq_true → zA9, zero_le → zB2, zero_add → zB6, lt_or_ge → zC4, lt_succ_self → zC7, le_trans → zD1, lt_of_lt_of_le → zD2, add_zero → zD8, zero_mul → zE8, le_of_eq → zE9, sub_self → zF7, eq_of_beq_eq_true → zF9, add_sub_cancel_left → zG3
open Bool renaming and_eq_true → zA5, false_eq_true → zC2, not_true → zD3, and_self → zD5, not_false → zE1
open List renaming getElem?_eq_getElem → zA6, mem_singleton → zA8, mem_cons → zB1, mem_cons_of_mem → zB3, length_cons → zB4, mem_append → zB5, length_append → zB7, nil_append → zB8, map_cons → zB9, all_eq_true → zC0, mem_of_getElem? → zC1, length_nil → zC3, length_drop → zC5, mem_flatMap → zC6, append_nil → zC8, getD_eq_getElem?_getD → zC9, eq_nil_of_length_eq_zero → zD0, getElem?_eq_some_iff → zD4, drop_zero → zD6, mem_cons_self → zD7, length_take → zD9, getElem?_eq_none → zE0, mem_append_right → zE2, drop_eq_nil_of_le → zE3, mem_append_left → zE4, mem_of_mem_take → zE5, mem_of_mem_drop → zE6, getElem?_cons_zero → zF0, take_of_length_le → zF1, flatMap_cons → zF2, mem_range → zF3, cons_append → zF4, map_nil → zF5, take_length → zF6, getElem?_cons_succ → zF8, drop_drop → zG0, append_assoc → zG1, drop_eq_getElem_cons → zG2
open Int renaming toNat_natCast → zE7

namespace Go.Proofs.YtaojjfebkldmnaaDoor
open Go.Ax
def preR:List (List Ce)→List (List Ce)→Nat
 |x::g,y::h=>if x=y then preR g h+1 else 0
 |_,_=>0
def sufR (g h:List (List Ce)) (top:Nat):Nat→Nat
 |0=>0
 |b+1=>if top<b+1∧g.getD b []=h.getD b [] then sufR g h top b else b+1
def firstI (P:Nat→Bool) (i:Nat):Nat→Option Nat
 |0=>none
 |f+1=>if P i=true then some i else firstI P (i+1) f
def upR (g h:List (List Ce)) (top n i:Nat):Bool:=decide ((h.drop top).take (n-i)=(g.drop (top+i)).take (n-i))
def dnR (g h:List (List Ce)) (top n i:Nat):Bool:=decide ((h.drop (top+i)).take (n-i)=(g.drop top).take (n-i))
def rollOp (k:Int) (top bot i:Nat):Op:=⟨k,(top:Int),(bot:Int)-1,(i:Int),⟨0,0,false,false,false⟩,.empty⟩
def shiftR (g h:List (List Ce)):Option Op :=
 let top:=preR g h
 let bot:=sufR g h top h.length
 match firstI (upR g h top (bot-top)) 1 (bot-top-1) with
 |some i=>some (rollOp 5 top bot i)
 |none=>(firstI (dnR g h top (bot-top)) 1 (bot-top-1)).map (rollOp 6 top bot)
theorem preR_drop:∀ (g h:List (List Ce)) (k:Nat),g.take k=h.take k→k≤g.length→k≤h.length→preR g h=preR (g.drop k) (h.drop k)+k
 |g,h,0,_,_,_=>by simp
 |[],_,k+1,_,h1,_=>by simp at h1
 |_::_,[],k+1,_,_,h1=>by simp at h1
 |x::g,y::h,k+1,e,h1,h2=>by
  simp only[List.take_succ_cons,List.cons.injEq]at e
  rw[preR,if_pos e.1,preR_drop g h k e.2 (by simpa using h1) (by simpa using h2),List.drop_succ_cons,List.drop_succ_cons]
  omega
theorem preR_le:∀ (g h:List (List Ce)),preR g h≤h.length∧preR g h≤g.length∧g.take (preR g h)=h.take (preR g h)
 |[],h=>by simp[preR]
 |_::_,[]=>by simp[preR]
 |x::g,y::h=>by
  rw[preR]
  split
  ·rename_i e
   have:=preR_le g h
   refine⟨by simp; omega,by simp; omega,?_⟩
   rw[List.take_succ_cons,List.take_succ_cons,e,this.2.2]
  ·simp
theorem sufR_le (g h:List (List Ce)) (top:Nat):∀ b,sufR g h top b≤b
 |0=>zA4 _
 |b+1=>by
  rw[sufR]
  split
  ·exact Nat.le_succ_of_le (sufR_le g h top b)
  ·exact zA4 _
theorem sufR_ge (g h:List (List Ce)) (top:Nat):∀ b,top≤b→top≤sufR g h top b
 |0,h0=>h0
 |b+1,h0=>by
  rw[sufR]
  split
  ·rename_i c; exact sufR_ge g h top b (by omega)
  ·exact h0
theorem firstI_some {P:Nat→Bool}:∀ (f i j:Nat),firstI P i f=some j→i≤j∧j<i+f∧P j=true
 |0,i,j,h=>by cases h
 |f+1,i,j,h=>by
  rw[firstI]at h
  split at h
  ·rename_i hp; cases h; exact⟨zA4 _,by omega,hp⟩
  ·have:=firstI_some f (i+1) j h; exact⟨by omega,by omega,this.2.2⟩
def encR (c:Int):List Int :=
 if c<128 then [c] else if c<2048 then [192+c / 64,128+c % 64] else if c<65536 then [224+c / 4096,128+c / 64 % 64,128+c % 64] else [240+c / 262144,128+c / 4096 % 64,128+c / 64 % 64,128+c % 64]
def ev (l:List Int):List Value:=l.map (Value.int .u8)
theorem ev_one (l:List Int):(ev l).all one=true:=by induction l with|nil=>rfl|cons a l ih=>simp only[ev,zB9,List.all_cons]at ih ⊢; rw[ih]; rfl
theorem ev_sc (l:List Int) (n:Nat):scbL n (ev l)=true:=by induction l with|nil=>rfl|cons a l ih=>simp only[ev,zB9,scbL]at ih ⊢; rw[ih]; rfl
theorem ev_app (l m:List Int):ev (l++m)=ev l++ev m:=by simp[ev]
theorem ev_len (l:List Int):(ev l).length=l.length:=by simp[ev]
theorem encR_len (c:Int):1≤(encR c).length∧(encR c).length≤4:=by
 unfold encR
 split
 ·simp
 ·split
  ·simp
  ·split<;>simp
theorem wrap8 (n:Int):IntKind.u8.wrap n=n % 256:=by
 simp[IntKind.wrap,IntKind.bits,IntKind.signed]
theorem wrapU32 {n:Int} (h0:0≤n) (h1:n<4294967296):IntKind.u32.wrap n=n:=by
 simp[IntKind.wrap,IntKind.bits,IntKind.signed]
 omega
theorem wrapI32 {n:Int} (h0:0≤n) (h1:n<2147483648):IntKind.i32.wrap n=n:=by
 simp[IntKind.wrap,IntKind.bits,IntKind.signed]
 omega
theorem and63 {x:Int} (h0:0≤x) (h1:x<256):bAnd .u8 x 63=x % 64:=by
 have h:=zC0.1 (show ((List.range 256).all fun i=>decide (bAnd .u8 (i:Int) 63=(i:Int) % 64))=true by kernel_rfl) x.toNat (zF3.2 (by omega))
 have e:((x.toNat:Nat):Int)=x:=Int.toNat_of_nonneg h0
 rw[e]at h
 exact of_decide_eq_true h
theorem or128 {x:Int} (h0:0≤x) (h1:x<64):bOr .u8 128 x=128+x:=by
 have h:=zC0.1 (show ((List.range 64).all fun i=>decide (bOr .u8 128 (i:Int)=128+(i:Int)))=true by kernel_rfl) x.toNat (zF3.2 (by omega))
 have e:((x.toNat:Nat):Int)=x:=Int.toNat_of_nonneg h0
 rw[e]at h
 exact of_decide_eq_true h
theorem or192 {x:Int} (h0:0≤x) (h1:x<32):bOr .u8 192 x=192+x:=by
 have h:=zC0.1 (show ((List.range 32).all fun i=>decide (bOr .u8 192 (i:Int)=192+(i:Int)))=true by kernel_rfl) x.toNat (zF3.2 (by omega))
 have e:((x.toNat:Nat):Int)=x:=Int.toNat_of_nonneg h0
 rw[e]at h
 exact of_decide_eq_true h
theorem or224 {x:Int} (h0:0≤x) (h1:x<16):bOr .u8 224 x=224+x:=by
 have h:=zC0.1 (show ((List.range 16).all fun i=>decide (bOr .u8 224 (i:Int)=224+(i:Int)))=true by kernel_rfl) x.toNat (zF3.2 (by omega))
 have e:((x.toNat:Nat):Int)=x:=Int.toNat_of_nonneg h0
 rw[e]at h
 exact of_decide_eq_true h
theorem or240 {x:Int} (h0:0≤x) (h1:x<8):bOr .u8 240 x=240+x:=by
 have h:=zC0.1 (show ((List.range 8).all fun i=>decide (bOr .u8 240 (i:Int)=240+(i:Int)))=true by kernel_rfl) x.toNat (zF3.2 (by omega))
 have e:((x.toNat:Nat):Int)=x:=Int.toNat_of_nonneg h0
 rw[e]at h
 exact of_decide_eq_true h
theorem shr_c {c:Int} (h0:0≤c) (n:Nat) (hn:n≤32) (q:Int) (hq:(2:Int) ^ n=q) (hp:0<q):bShr .i32 c n=c / q:=by
 have:min n IntKind.i32.bits=n:=Nat.min_eq_left hn
 rw[bShr,this,hq,Int.fdiv_eq_ediv_of_nonneg _ (by omega)]
def EncOut (X:AHeap) (v:Value) (bs:List Int) (out:Out) (G:AHeap):Prop :=
 ∃ u,out=.ok u∧VsAt G 5 1 u (ev bs) bs.length∧Mod (idsV v) X G∧∀ n∈idsV u,X.next≤n
theorem byte_app {X:AHeap} {v:Value} {bs e:List Int} {x k:Nat} (h:VsAt X 5 1 v (ev bs) bs.length) (hx:X.next=x) (hb:X.base≤X.next) (hlen:bs.length≤1000000) (he:e.length=k) (hk:1≤k) (hk4:k≤4) :
  ∃ G,aBuiltin Tryd.prog (ext X [⟨5,false,ev e⟩]) .append ⟨[122,122]⟩ [v,.slice (some ⟨x+0,0,some 0⟩) k k]=some (.slice (some ⟨x+1,0,none⟩) (bs.length+k) (bs.length+k),ext G [])∧VsAt G 5 1 (.slice (some ⟨x+1,0,none⟩) (bs.length+k) (bs.length+k)) (ev (bs++e)) (bs++e).length∧Mod (idsV v) X G∧G.next=x+2:=by
 have h2:VsAt (ext X [⟨5,false,ev e⟩]) 5 1 v (ev bs) bs.length:=h.of (by rw[ext_next]; omega) (fun n hn=>ext_get_old (h.ne n hn).2)
 have hkb:bk (ext X [⟨5,false,ev e⟩]) (x+0)=some ⟨5,false,ev e⟩:=by rw[bk_at hx (by simp)]; rfl
 have hsm:small (bs.length+k) 1=true:=by simp only[small,zA5,Nat.ble_eq]; omega
 obtain⟨G,k1,k2,k3,k4,_⟩:=vs_app (P:=Tryd.prog) (H:=ext X [⟨5,false,ev e⟩]) (st:=122) (xt:=122) (e:=5) (sz:=1) (by1:=1) (z:=.int .u8 0) (n:=x+0) (off:=0) (cnt2:=k) (cap:=k) (s:=some 0) (x:=x+1) (ws:=ev e) (b:=⟨5,false,ev e⟩)
  (by kernel_rfl) (by kernel_rfl) (by kernel_rfl) (by kernel_rfl) rfl (by kernel_rfl) h2 (rk_of hkb) (by simp[ev_len,he]) (by simp only[zD6]; exact zF1 (by rw[ev_len,he]; omega)) (ev_one e) (by omega) hsm (by rw[ext_next,hx]; rfl) (scbL_append (ev_sc _ _) (ev_sc _ _))
 rw[←ev_app]at k2
 refine⟨G,k1,by rw[zB7,he]; exact k2,(Mod.ext hb).trans (k3 ((Mod.ext (W:=[]) hb).ok hb)),k4⟩
theorem nonAscii_c (X:AHeap) (v:Value) (bs:List Int) (c:Int) (h:VsAt X 5 1 v (ev bs) bs.length) (hok:X.base≤X.next) (hc:isR c=true) (h128:128≤c) (hlen:bs.length≤1000000) :
  CallA Tryd.prog 113 [v,.int .i32 c] X (EncOut X v (bs++encR c)):=by
 obtain⟨x,hx⟩:∃ x,X.next=x:=⟨_,rfl⟩
 have hxb:X.base≤x:=hx▸hok
 have hr:0≤c∧c≤1114111∧(c<55296∨57343<c):=by
  simp only[isR,zA5,Bool.not_eq_true',Bool.and_eq_false_iff,decide_eq_true_eq,decide_eq_false_iff_not]at hc
  omega
 have wu:IntKind.u32.wrap c=c:=wrapU32 (by omega) (by omega)
 have cvu:∀ (X:AHeap) (m:Int),aConvert Tryd.prog X 21 132 (.int .i32 m)=some (.int .u32 (IntKind.u32.wrap m),X):=fun X m=>cv_int (u:=.int .i32) (by kernel_rfl) (by kernel_rfl)
 have cv8:∀ (X:AHeap) (m:Int),aConvert Tryd.prog X 21 5 (.int .i32 m)=some (.int .u8 (IntKind.u8.wrap m),X):=fun X m=>cv_int (u:=.int .i32) (by kernel_rfl) (by kernel_rfl)
 have s6:bShr .i32 c 6=c / 64:=shr_c (by omega) 6 (by omega) 64 (by decide) (by omega)
 have s12:bShr .i32 c 12=c / 4096:=shr_c (by omega) 12 (by omega) 4096 (by decide) (by omega)
 have s18:bShr .i32 c 18=c / 262144:=shr_c (by omega) 18 (by omega) 262144 (by decide) (by omega)
 have l8:bOr .u8 128 (bAnd .u8 (IntKind.u8.wrap c) 63)=128+c % 64:=by
  rw[wrap8,and63 (by omega) (by omega),or128 (by omega) (by omega)]; omega
 have m8:bOr .u8 128 (bAnd .u8 (IntKind.u8.wrap (c / 64)) 63)=128+c / 64 % 64:=by
  rw[wrap8,and63 (by omega) (by omega),or128 (by omega) (by omega)]; omega
 have n8:bOr .u8 128 (bAnd .u8 (IntKind.u8.wrap (c / 4096)) 63)=128+c / 4096 % 64:=by
  rw[wrap8,and63 (by omega) (by omega),or128 (by omega) (by omega)]; omega
 refine callE_fn mixed Tryd.func113 rfl Tryd.ntmps113 (zA9 rfl) ?_
 obtain⟨a,ea⟩:=h.len
 by_cases c1:c<2048
 ·have d1:decide (c≤2047)=true:=decide_eq_true (by omega)
  have f8:bOr .u8 192 (IntKind.u8.wrap (c / 64))=192+c / 64:=by rw[wrap8,Int.emod_eq_of_lt (by omega) (by omega),or192 (by omega) (by omega)]
  have he:encR c=[192+c / 64,128+c % 64]:=by rw[encR,if_neg (by omega),if_pos c1]
  obtain⟨G,k1,k2,k3,k4⟩:=byte_app (e:=encR c) (k:=2) h hx hok hlen (by rw[he]; rfl) (by omega) (by omega)
  rw[he]at k1
  simp only[ev,zB9,zF5]at k1
  simp (maxDischargeDepth:=6) only[wu,cvu,cv8,d1,hx,hxb,w_convert,w_and,bit_and,w_or,bit_or,w_shr,bit_shr,Int.reduceLE,Int.reduceToNat,s6,l8,f8,k1,Tryd.results113,ruW,putL,Nat.reduceLeDiff,xF,ruU,entryE,Nat.reduceLT,Nat.reduceAdd,Nat.reduceMul,Nat.reduceEqDiff]
  exact⟨_,rfl,k2,k3,fun n hn=>by simp only[idsV,zA8]at hn; omega⟩
 ·have d1:decide (c≤2047)=false:=decide_eq_false (by omega)
  by_cases c2:c<65536
  ·have f8:bOr .u8 224 (IntKind.u8.wrap (c / 4096))=224+c / 4096:=by rw[wrap8,Int.emod_eq_of_lt (by omega) (by omega),or224 (by omega) (by omega)]
   have he:encR c=[224+c / 4096,128+c / 64 % 64,128+c % 64]:=by rw[encR,if_neg (by omega),if_neg c1,if_pos c2]
   obtain⟨G,k1,k2,k3,k4⟩:=byte_app (e:=encR c) (k:=3) h hx hok hlen (by rw[he]; rfl) (by omega) (by omega)
   rw[he]at k1
   simp only[ev,zB9,zF5]at k1
   by_cases c3:c<55296
   ·have d2:decide (c<55296)=true:=decide_eq_true c3
    simp (maxDischargeDepth:=6) only[wu,cvu,cv8,d1,d2,hx,hxb,w_convert,w_and,bit_and,w_or,bit_or,w_shr,bit_shr,Int.reduceLE,Int.reduceToNat,s6,s12,l8,m8,f8,k1,Tryd.results113,ruW,putL,Nat.reduceLeDiff,xF,ruU,entryE,Nat.reduceLT,Nat.reduceAdd,Nat.reduceMul,Nat.reduceEqDiff]
    exact⟨_,rfl,k2,k3,fun n hn=>by simp only[idsV,zA8]at hn; omega⟩
   ·have d2:decide (c<55296)=false:=decide_eq_false c3
    have d3:decide (57343<c)=true:=decide_eq_true (by omega)
    have d4:decide (c≤65535)=true:=decide_eq_true (by omega)
    simp (maxDischargeDepth:=6) only[wu,cvu,cv8,d1,d2,d3,d4,hx,hxb,w_convert,w_and,bit_and,w_or,bit_or,w_shr,bit_shr,Int.reduceLE,Int.reduceToNat,s6,s12,l8,m8,f8,k1,Tryd.results113,ruW,putL,Nat.reduceLeDiff,xF,ruU,entryE,Nat.reduceLT,Nat.reduceAdd,Nat.reduceMul,Nat.reduceEqDiff]
    exact⟨_,rfl,k2,k3,fun n hn=>by simp only[idsV,zA8]at hn; omega⟩
  ·have d2:decide (c<55296)=false:=decide_eq_false (by omega)
   have d3:decide (57343<c)=true:=decide_eq_true (by omega)
   have d4:decide (c≤65535)=false:=decide_eq_false (by omega)
   have d5:decide (65535<c)=true:=decide_eq_true (by omega)
   have d6:decide (c≤1114111)=true:=decide_eq_true (by omega)
   have f8:bOr .u8 240 (IntKind.u8.wrap (c / 262144))=240+c / 262144:=by rw[wrap8,Int.emod_eq_of_lt (by omega) (by omega),or240 (by omega) (by omega)]
   have he:encR c=[240+c / 262144,128+c / 4096 % 64,128+c / 64 % 64,128+c % 64]:=by rw[encR,if_neg (by omega),if_neg c1,if_neg c2]
   obtain⟨G,k1,k2,k3,k4⟩:=byte_app (e:=encR c) (k:=4) h hx hok hlen (by rw[he]; rfl) (by omega) (by omega)
   rw[he]at k1
   simp only[ev,zB9,zF5]at k1
   simp (maxDischargeDepth:=6) only[wu,cvu,cv8,d1,d2,d3,d4,d5,d6,hx,hxb,w_convert,w_and,bit_and,w_or,bit_or,w_shr,bit_shr,Int.reduceLE,Int.reduceToNat,s6,s12,s18,l8,m8,n8,f8,k1,Tryd.results113,ruW,putL,Nat.reduceLeDiff,xF,ruU,entryE,Nat.reduceLT,Nat.reduceAdd,Nat.reduceMul,Nat.reduceEqDiff]
   exact⟨_,rfl,k2,k3,fun n hn=>by simp only[idsV,zA8]at hn; omega⟩
theorem appendRune_c (X:AHeap) (v:Value) (bs:List Int) (c:Int) (h:VsAt X 5 1 v (ev bs) bs.length) (hok:X.base≤X.next) (hc:isR c=true) (hlen:bs.length≤1000000) :
  CallA Tryd.prog 99 [v,.int .i32 c] X (EncOut X v (bs++encR c)):=by
 obtain⟨x,hx⟩:∃ x,X.next=x:=⟨_,rfl⟩
 have hxb:X.base≤x:=hx▸hok
 have hr:0≤c∧c≤1114111:=by
  simp only[isR,zA5,Bool.not_eq_true',Bool.and_eq_false_iff,decide_eq_true_eq,decide_eq_false_iff_not]at hc
  omega
 have wu:IntKind.u32.wrap c=c:=wrapU32 (by omega) (by omega)
 have cvu:∀ (X:AHeap) (m:Int),aConvert Tryd.prog X 21 132 (.int .i32 m)=some (.int .u32 (IntKind.u32.wrap m),X):=fun X m=>cv_int (u:=.int .i32) (by kernel_rfl) (by kernel_rfl)
 have cv8:∀ (X:AHeap) (m:Int),aConvert Tryd.prog X 21 5 (.int .i32 m)=some (.int .u8 (IntKind.u8.wrap m),X):=fun X m=>cv_int (u:=.int .i32) (by kernel_rfl) (by kernel_rfl)
 refine callE_fn mixed Tryd.func99 rfl Tryd.ntmps99 (zA9 rfl) ?_
 by_cases c1:c<128
 ·have d1:decide (c≤127)=true:=decide_eq_true (by omega)
  have f8:IntKind.u8.wrap c=c:=by rw[wrap8,Int.emod_eq_of_lt (by omega) (by omega)]
  have he:encR c=[c]:=by rw[encR,if_pos c1]
  obtain⟨G,k1,k2,k3,k4⟩:=byte_app (e:=encR c) (k:=1) h hx hok hlen (by rw[he]; rfl) (by omega) (by omega)
  rw[he]at k1
  simp only[ev,zB9,zF5]at k1
  simp (maxDischargeDepth:=6) only[wu,cvu,cv8,d1,hx,hxb,w_convert,f8,k1,Tryd.results99,ruW,putL,Nat.reduceLeDiff,xF,ruU,entryE,Nat.reduceLT,Nat.reduceAdd,Nat.reduceMul,Nat.reduceEqDiff]
  exact⟨_,rfl,k2,k3,fun n hn=>by simp only[idsV,zA8]at hn; omega⟩
 ·have d1:decide (c≤127)=false:=decide_eq_false (by omega)
  simp (maxDischargeDepth:=6) only[wu,cvu,d1,hx,hxb,w_convert,ruW,putL,Nat.reduceLeDiff,xF,ruU,entryE,Nat.reduceLT,Nat.reduceAdd,Nat.reduceMul,Nat.reduceEqDiff]
  refine (nonAscii_c X v bs c h hok hc (by omega) hlen).mono ?_
  rintro _ G ⟨u,rfl,k2,k3,k4⟩
  rw[show G=ext G [] from rfl]
  simp (maxDischargeDepth:=6) only[Tryd.results99,ruW,putL,Nat.reduceLeDiff,xF,ruU,entryE,Nat.reduceLT,Nat.reduceAdd,Nat.reduceMul,Nat.reduceEqDiff]
  exact⟨u,rfl,k2,k3,k4⟩
end Go.Proofs.YtaojjfebkldmnaaDoor
namespace Go.Ax
theorem CallA.pureW {P:Program} {H:AHeap} {f:FuncId} {args:List Value} {v:Value} (h:H.base≤H.next→CallA P f args H fun out X=>out=.ok v∧Mod [] H X) (hv:scb H.next v=true):CallS P f args H (.ok v) H:=fun ρ w r hsc=>(h r.wf.base).pure hv ρ w r hsc
end Go.Ax
namespace Go.Proofs.YtaojjfebkldmnaaDoor
open Go.Ax
def strR (l:List Int):ByteArray:=⟨((l.flatMap encR).map fun n=>UInt8.ofNat n.toNat).toArray⟩
theorem bytes_of:∀ bs:List Int,bytesOfCells (ev bs)=some (bs.map fun n=>UInt8.ofNat n.toNat)
 |[]=>rfl
 |b::bs=>by
  have:=bytes_of bs
  simp only[ev]at this
  simp only[ev,zB9,bytesOfCells,this,zA7]
theorem cv_str {X:AHeap} {u:Value} {bs:List Int} (h:VsAt X 5 1 u (ev bs) bs.length):aConvert Tryd.prog X 122 9 u=some (.string ⟨(bs.map fun n=>UInt8.ofNat n.toNat).toArray⟩,X):=by
 have u122:Tryd.prog.underlying 122=some (.slice 5):=by kernel_rfl
 have u9':Tryd.prog.underlying 9=some .string:=by kernel_rfl
 have u5:Tryd.prog.underlying 5=some (.int .u8):=by kernel_rfl
 have hb:=bytes_of bs
 obtain⟨h1,h2,⟨h3,rfl⟩|⟨h3,n,rfl,hk,hn⟩⟩:=h
 ·have:bs=[]:=zD0 h3
  subst this
  simp only[aConvert,u122,u9',u5,firstC,if_true,zA1,zA3]
  rfl
 ·have hf:=first_bk (sz:=1) (cnt:=bs.length) (off:=0) (len:=bs.length) (cap:=bs.length) (s:=none) hk (by simp only; rw[ev_len]; omega)
  simp only[zD6]at hf
  rw[zF1 (by rw[ev_len]; omega)]at hf
  simp only[aConvert,u122,u9',u5,hf,zA1,zA3,hb,zA7]
theorem int_load {X:AHeap} {v:Value} {l:List Int} {k:Nat} {c:Int} (h:VsAt X 3 1 v (iv l) l.length) (hk:l[k]?=some c) :
  ∃ n,v=.slice (some ⟨n,0,none⟩) l.length l.length∧n<X.next∧aIndexAddr Tryd.prog 109 v (.int .i64 (k:Int))=some (.pointer (some ⟨n,k,none⟩))∧bk X n=some ⟨3,true,iv l⟩∧ldB Tryd.prog 3 k (some ⟨3,true,iv l⟩)=some (.int .i64 c):=by
 have hlt:=(zD4.1 hk).1
 obtain⟨h1,h2,⟨h3,rfl⟩|⟨h3,n,rfl,hb,hn⟩⟩:=h
 ·omega
 ·refine⟨n,rfl,hn,ints_ia hlt,hb,?_⟩
  rw[ld_one (by kernel_rfl)]
  simp only[iv,List.getElem?_map,hk,zA7]
theorem enc_take {l:List Int} {k:Nat} {c:Int} (h:l[k]?=some c):(l.take k).flatMap encR++encR c=(l.take (k+1)).flatMap encR:=by
 rw[List.take_add_one,h,List.flatMap_append]
 simp
theorem enc_len (l:List Int):(l.flatMap encR).length≤l.length*4:=by
 induction l with
 |nil=>simp
 |cons a l ih =>
  have:=(encR_len a).2
  simp only[zF2,zB7,zB4]
  omega
theorem ptext_c (H:AHeap) (v:Value) (l:List Int) (h:VsAt H 3 1 v (iv l) l.length) (hl:l.length≤65536) (hc:∀ c∈l,isR c=true):Pure 81 [v] H (.tuple #[.string (strR l),.int .i64 0]):=by
 refine CallA.pureW (fun hok=>?_) (by rfl)
 obtain⟨a,ea⟩:=h.len
 have hd:decide (65536<(l.length:Int))=false:=decide_eq_false (by omega)
 have cv21:∀ (X:AHeap) (m:Int),aConvert Tryd.prog X 3 21 (.int .i64 m)=some (.int .i32 (IntKind.i32.wrap m),X):=fun X m=>cv_int (u:=.int .i64) (by kernel_rfl) (by kernel_rfl)
 refine callE_fn mixed Tryd.func81 rfl Tryd.ntmps81 (zA9 rfl) ?_
 rw[ea]
 simp (maxDischargeDepth:=6) only[hd,ruW,putL,Nat.reduceLeDiff,xF,ruU,entryE,Nat.reduceLT,Nat.reduceAdd,Nat.reduceMul,Nat.reduceEqDiff]
 rw[←ea]
 refine w_env fun E hE=>?_
 have g10:E 10=v:=by rw[hE]; simp only[ruU,entryE,Nat.reduceLT,Nat.reduceAdd,Nat.reduceMul,Nat.reduceEqDiff]
 have g11:E 11=.int .i64 (l.length:Int):=by rw[hE]; simp only[ruU,entryE,Nat.reduceLT,Nat.reduceAdd,Nat.reduceMul,Nat.reduceEqDiff]
 have g12:E 12=.int .i64 ((0:Nat):Int):=by rw[hE]; (simp only[ruU,entryE,Nat.reduceLT,Nat.reduceAdd,Nat.reduceMul,Nat.reduceEqDiff]<;>rfl)
 have g4:E 4=.slice none 0 0:=by rw[hE]; simp only[ruU,entryE,Nat.reduceLT,Nat.reduceAdd,Nat.reduceMul,Nat.reduceEqDiff]
 clear hE
 refine blockC_meet (fun E' X=>Mod [] H X∧∃ u,E' 4=u∧VsAt X 5 1 u (ev (l.flatMap encR)) (l.flatMap encR).length) ?_ ?_
 ·refine w_loop (fun (q:Nat × Value) E' X=>Mod [] H X∧E' 10=v∧E' 11=.int .i64 (l.length:Int)∧E' 12=.int .i64 (q.1:Int)∧E' 4=q.2∧q.1≤l.length∧VsAt X 5 1 q.2 (ev ((l.take q.1).flatMap encR)) ((l.take q.1).flatMap encR).length∧∀ n∈idsV q.2,H.next≤n) (fun q=>l.length-q.1) (0,.slice none 0 0)
   ⟨Mod.refl,g10,g11,g12,g4,zB2 _,VsAt.nil,fun n hn=>by simp[idsV]at hn⟩ ?_
  clear g4 g10 g11 g12 E
  rintro⟨k,u⟩ E X ⟨m,g10,g11,g12,g4,hk,hu,hid⟩
  simp only at g10 g11 g12 g4 hk hu hid
  rw[show X=ext X [] from rfl]
  by_cases hkl:k=l.length
  ·have hc:decide ((k:Int)<(l.length:Int))=false:=by simp[hkl]
   simp (maxDischargeDepth:=6) only[g10,g11,g12,g4,hc,ruW,putL,Nat.reduceLeDiff,xF,ruU,entryE,Nat.reduceLT,Nat.reduceAdd,Nat.reduceMul,Nat.reduceEqDiff]
   refine joinR_normal ⟨m,u,by simp only[g4,ruU,entryE,Nat.reduceLT,Nat.reduceAdd,Nat.reduceMul,Nat.reduceEqDiff],?_⟩
   rw[hkl,zF6]at hu
   exact hu
  ·have hlt:k<l.length:=by omega
   have hcd:decide ((k:Int)<(l.length:Int))=true:=decide_eq_true (by omega)
   obtain⟨c,hck⟩:∃ c,l[k]?=some c:=⟨_,zA6 hlt⟩
   have hcc:=hc c (zC1 hck)
   have hvX:VsAt X 3 1 v (iv l) l.length:=h.of m.next fun n hn=>m.get n (h.ne n hn).2 (by simp)
   obtain⟨n,ev',hn,hia,hb,hld⟩:=int_load hvX hck
   obtain⟨x,hx⟩:∃ x,X.next=x:=⟨_,rfl⟩
   have hr:0≤c∧c≤1114111:=by
    simp only[isR,zA5,Bool.not_eq_true',Bool.and_eq_false_iff,decide_eq_true_eq,decide_eq_false_iff_not]at hcc
    omega
   have w32:IntKind.i32.wrap c=c:=wrapI32 (by omega) (by omega)
   rw[hx]at hn
   simp (maxDischargeDepth:=6) only[g10,g11,g12,g4,hx,hcd,hia,hn,hb,hld,ruW,putL,Nat.reduceLeDiff,xF,ruU,entryE,Nat.reduceLT,Nat.reduceAdd,Nat.reduceMul,Nat.reduceEqDiff]
   refine (is_c (ext X []) c).to ?_
   simp (maxDischargeDepth:=6) only[hcc,g10,g11,g12,g4,w_convert,cv21,w32,ruW,putL,Nat.reduceLeDiff,xF,ruU,entryE,Nat.reduceLT,Nat.reduceAdd,Nat.reduceMul,Nat.reduceEqDiff]
   refine (appendRune_c X u _ c hu (m.ok hok) hcc (by have:=enc_len (l.take k); rw[zD9]at this; omega)).mono ?_
   rintro _ G ⟨u2,rfl,k1,k2,k3⟩
   rw[show G=ext G [] from rfl]
   rw[enc_take hck]at k1
   simp (maxDischargeDepth:=6) only[g10,g11,g12,g4,wrap_succ (show k<1000000 by omega),ruW,putL,Nat.reduceLeDiff,xF,ruU,entryE,Nat.reduceLT,Nat.reduceAdd,Nat.reduceMul,Nat.reduceEqDiff]
   refine loopC_next ⟨(k+1,u2),by simp only; omega,m.step k2 hok (fun q hq=>.inr (hid q hq)),?_,?_,?_,?_,by simp only; omega,k1,fun q hq=>by have:=k3 q hq; have:=m.next; simp only at *; omega⟩<;>simp only[g10,g11,g12,g4,ruU,entryE,Nat.reduceLT,Nat.reduceAdd,Nat.reduceMul,Nat.reduceEqDiff]
 ·rintro E X ⟨m,u,g4,hu⟩
  rw[show X=ext X [] from rfl]
  have hcv:=cv_str (X:=ext X []) hu
  simp (maxDischargeDepth:=6) only[g4,w_convert,hcv,Tryd.results81,ruW,putL,Nat.reduceLeDiff,xF,ruU,entryE,Nat.reduceLT,Nat.reduceAdd,Nat.reduceMul,Nat.reduceEqDiff]
  exact⟨rfl,m⟩
def lk0:Lk:=⟨0,0,false,false,false⟩
def opM (r c:Int):Op:=⟨1,r,c,0,lk0,.empty⟩
def opL (k:Lk):Op:=⟨2,0,0,0,k,.empty⟩
def opT (s:ByteArray):Op:=⟨3,0,0,0,lk0,s⟩
def opK (k:Int):Op:=⟨k,0,0,0,lk0,.empty⟩
def tailR (l:List Ce):Nat→Nat
 |0=>0
 |e+1=>if l[e]?=some Ce.sp then tailR l e else e+1
def skipR (a b:List Ce) (i:Nat):Nat→Nat
 |0=>i
 |f+1=>if a[i]?=b[i]? then skipR a b (i+1) f else i
def gapR (a b:List Ce) (i td k:Nat):Nat→Nat
 |0=>td
 |f+1=>if k<8 then (if a[i]?=b[i]? then gapR a b (i+1) td (k+1) f else gapR a b (i+1) (i+1) 0 f) else td
def half9 (b:List Ce) (s t:Nat):Nat:=if s<t∧(b[t]?).map Ce.rune=some (-1) then t+1 else t
def pieceR (a b:List Ce) (i e:Nat):Nat × Nat :=
 (skipR a b i (e-i),half9 b (skipR a b i (e-i)) (gapR a b (skipR a b i (e-i)) (skipR a b i (e-i)) 0 (e-skipR a b i (e-i))))
def spanR (k:Lk):List Ce→Nat
 |[]=>0
 |c::l=>if c.look=k then spanR k l+1 else 0
def runesR (l:List Ce):List Int:=(l.map Ce.rune).filter fun c=>decide (c≠-1)
def writeR:Nat→List Ce→Lk→List Op × Lk
 |0,_,p=>([],p)
 |_+1,[],p=>([],p)
 |f+1,c::l,p =>
  ((if c.look=p then [] else [opL c.look])++opT (strR (runesR ((c::l).take (spanR c.look (c::l)))))::(writeR f ((c::l).drop (spanR c.look (c::l))) c.look).1,
   (writeR f ((c::l).drop (spanR c.look (c::l))) c.look).2)
def runsR (row i:Nat) (l:List Ce) (p:Lk):List Op × Lk:=(opM row i::(writeR l.length l p).1,(writeR l.length l p).2)
def piecesR (row:Nat) (a b:List Ce) (e:Nat):Nat→Nat→Lk→List Op × Lk
 |0,_,p=>([],p)
 |f+1,i,p =>
  if (pieceR a b i e).1<(pieceR a b i e).2 then
   ((runsR row (pieceR a b i e).1 ((b.take (pieceR a b i e).2).drop (pieceR a b i e).1) p).1++(piecesR row a b e f (pieceR a b i e).2 (runsR row (pieceR a b i e).1 ((b.take (pieceR a b i e).2).drop (pieceR a b i e).1) p).2).1,
    (piecesR row a b e f (pieceR a b i e).2 (runsR row (pieceR a b i e).1 ((b.take (pieceR a b i e).2).drop (pieceR a b i e).1) p).2).2)
  else ([],p)
def endR (row:Nat) (a b:List Ce) (e:Nat):List Op:=if a.drop e=b.drop e then [] else [opM row e,opK 4]
def lineR (row:Nat) (a b:List Ce) (p:Lk):List Op × Lk :=
 ((piecesR row a b (tailR b b.length) (b.length+1) 0 p).1++endR row a b (tailR b b.length),(piecesR row a b (tailR b b.length) (b.length+1) 0 p).2)
def rowsR:Nat→List (List Ce)→List (List Ce)→Lk→List Op
 |i,a::g,b::h,p=>if a=b then rowsR (i+1) g h p else (lineR i a b p).1++rowsR (i+1) g h (lineR i a b p).2
 |_,_,_,_=>[]
def nowR (g h:List (List Ce)) (r c:Int):List (List Ce):=match shiftR g h with
 |some x=>(appV g r c [x]).1
 |none=>g
def curR (r c:Int):List Op:=if r<0 then [opK 8] else [opM r c,opK 7]
def opsR (g h:List (List Ce)) (r c r2 c2:Int):List Op:=(shiftR g h).toList++rowsR 0 (nowR g h r c) h lk0++curR r2 c2
theorem tailR_le (l:List Ce):∀ e,tailR l e≤e
 |0=>zA4 _
 |e+1=>by
  rw[tailR]
  split
  ·exact Nat.le_succ_of_le (tailR_le l e)
  ·exact zA4 _
theorem skipR_ge (a b:List Ce):∀ f i,i≤skipR a b i f∧skipR a b i f≤i+f
 |0,i=>⟨zA4 _,zA4 _⟩
 |f+1,i=>by
  rw[skipR]
  split
  ·have:=skipR_ge a b f (i+1); omega
  ·omega
theorem gapR_le (a b:List Ce):∀ f i td k,td≤i→td≤gapR a b i td k f∧gapR a b i td k f≤i+f
 |0,i,td,k,h=>by simp only[gapR]; omega
 |f+1,i,td,k,h=>by
  rw[gapR]
  split
  ·split
   ·have:=gapR_le a b f (i+1) td (k+1) (by omega); omega
   ·have:=gapR_le a b f (i+1) (i+1) 0 (by omega); omega
  ·omega
theorem pieceR_ge (a b:List Ce) (i e:Nat):i≤(pieceR a b i e).1∧(pieceR a b i e).1≤(pieceR a b i e).2:=by
 have h1:=skipR_ge a b (e-i) i
 have h2:=gapR_le a b (e-skipR a b i (e-i)) (skipR a b i (e-i)) (skipR a b i (e-i)) 0 (zA4 _)
 simp only[pieceR,half9]
 split<;>omega
theorem pieceR_le (a b:List Ce) (i e:Nat) (h:e≤b.length) (hi:i≤b.length):(pieceR a b i e).2≤b.length:=by
 have h1:=skipR_ge a b (e-i) i
 have h2:=gapR_le a b (e-skipR a b i (e-i)) (skipR a b i (e-i)) (skipR a b i (e-i)) 0 (zA4 _)
 simp only[pieceR,half9]
 split
 ·rename_i hc
  obtain⟨t,ht⟩:∃ t,gapR a b (skipR a b i (e-i)) (skipR a b i (e-i)) 0 (e-skipR a b i (e-i))=t:=⟨_,rfl⟩
  rw[ht]at hc ⊢
  rcases zC4 t b.length with h|h
  ·exact h
  ·rw[zE0 h]at hc; simp at hc
 ·omega
theorem spanR_le (k:Lk):∀ l,spanR k l≤l.length
 |[]=>zA4 _
 |c::l=>by
  rw[spanR]
  split
  ·have:=spanR_le k l; simp; omega
  ·simp
theorem spanR_pos (c:Ce) (l:List Ce):1≤spanR c.look (c::l):=by
 rw[spanR,if_pos rfl]; omega
def Lk.cells (k:Lk):List Value:=[.int .i64 k.fore,.int .i64 k.back,.bool k.bold,.bool k.under,.bool k.inv]
theorem lk_eqL (r s:Lk):eqL r.cells s.cells=decide (r=s):=by
 obtain⟨a,b,c,d,e⟩:=r
 obtain⟨a',b',c',d',e'⟩:=s
 simp only[Lk.cells,eqL,eq1,Bool.and_true,Lk.mk.injEq]
 by_cases h1:a=a'<;>by_cases h2:b=b'<;>by_cases h3:c=c'<;>by_cases h4:d=d'<;>by_cases h5:e=e'<;>simp[h1,h2,h3,h4,h5]
theorem fl45:flat Tryd.prog 10000 45=some [3,3,4,4,4]:=by kernel_rfl
theorem ag45:aggT Tryd.prog 45=some true:=by kernel_rfl
theorem gd45:Tryd.prog.eqGuardType Tryd.prog.depth 45=false:=by kernel_rfl
theorem lk_fits (r:Lk):fits Tryd.prog [3,3,4,4,4] r.cells=true:=by
 have h3:∀ n,fit1 Tryd.prog 3 (.int .i64 n)=true:=fun n=>by kernel_rfl
 have h4:∀ n,fit1 Tryd.prog 4 (.bool n)=true:=fun n=>by kernel_rfl
 simp only[Lk.cells,fits,h3,h4,zD5]
theorem other_c (H:AHeap) (c:Ce) (k:Lk) (q:Nat) (hb:bk H q=some ⟨45,false,k.cells⟩):Pure 80 [c.val,.pointer (some ⟨q,0,none⟩)] H (.bool (!decide (c.look=k))):=by
 obtain⟨b,hbn⟩:∃ b,H.next=b:=⟨_,rfl⟩
 refine callS_fn mixed Tryd.func80 rfl Tryd.ntmps80 (zA9 rfl) fun wf hsc=>?_
 have hbb:H.base≤b:=hbn▸wf.base
 have hlt:q<b:=hbn▸wf.lt hb
 simp (maxDischargeDepth:=6) only[Ce.val,Lk.cells,hbn,hbb,hb,hlt,ruW,putL,Nat.reduceLeDiff,xF,ruU,entryE,Nat.reduceLT,Nat.reduceAdd,Nat.reduceMul,Nat.reduceEqDiff]
 refine w_eqS (ts:=[3,3,4,4,4]) (xs:=c.look.cells) (ys:=k.cells) (r:=!decide (c.look=k)) fl45 ag45 gd45 (by rw[lk_eqL]; rfl) (by simp only[ruU,entryE,Nat.reduceLT,Nat.reduceAdd,Nat.reduceMul,Nat.reduceEqDiff]) (by simp only[ruU,entryE,Nat.reduceLT,Nat.reduceAdd,Nat.reduceMul,Nat.reduceEqDiff]) (by decide) (by simp only[ruU,entryE,Nat.reduceLT,Nat.reduceAdd,Nat.reduceMul,Nat.reduceEqDiff]; rfl) (by simp only[ruU,entryE,Nat.reduceLT,Nat.reduceAdd,Nat.reduceMul,Nat.reduceEqDiff]; rfl) (lk_fits _) (lk_fits _) ?_
 simp (maxDischargeDepth:=6) only[Tryd.results80,ruW,putL,Nat.reduceLeDiff,xF,ruU,entryE,Nat.reduceLT,Nat.reduceAdd,Nat.reduceMul,Nat.reduceEqDiff]
 exact Fin.pureE rfl rfl
def ixR (k:Lk) (l:List Ce):Int:=if spanR k l<l.length then (spanR k l:Int) else -1
theorem spanR_drop (k:Lk):∀ (l:List Ce) (i:Nat),(∀ j c,j<i→l[j]?=some c→c.look=k)→i≤l.length→spanR k l=spanR k (l.drop i)+i
 |l,0,_,_=>by simp
 |[],i+1,_,h=>by simp at h
 |c::l,i+1,h,hi=>by
  rw[spanR,if_pos (h 0 c (Nat.succ_pos _) rfl),List.drop_succ_cons,spanR_drop k l i (fun j c' hj hc=>h (j+1) c' (by omega) hc) (by simpa using hi)]
  omega
theorem index79_c (H:AHeap) (v:Value) (l:List Ce) (k:Lk) (q:Nat) (hr:RowAt H v l) (hl:l.length<1000000) (hq:bk H q=some ⟨45,false,k.cells⟩) :
  Pure 79 [v,.func (.func 80) ⟨[]⟩ ⟨[.pointer (some ⟨q,0,none⟩)]⟩] H (.int .i64 (ixR k l)):=by
 obtain⟨b,hb⟩:∃ b,H.next=b:=⟨_,rfl⟩
 refine callS_fn mixed Tryd.func79 rfl Tryd.ntmps79 (zA9 rfl) fun wf hsc=>?_
 obtain⟨a1,c1,e1⟩:=hr.sl
 rw[e1]
 simp (maxDischargeDepth:=6) only[ruW,putL,Nat.reduceLeDiff,xF,ruU,entryE,Nat.reduceLT,Nat.reduceAdd,Nat.reduceMul,Nat.reduceEqDiff]
 rw[←e1]
 refine w_env fun E hE=>?_
 have g0:E 0=v:=by rw[hE]; simp only[ruU,entryE,Nat.reduceLT,Nat.reduceAdd,Nat.reduceMul,Nat.reduceEqDiff]
 have g1:E 1=.func (.func 80) ⟨[]⟩ ⟨[.pointer (some ⟨q,0,none⟩)]⟩:=by rw[hE]; simp only[ruU,entryE,Nat.reduceLT,Nat.reduceAdd,Nat.reduceMul,Nat.reduceEqDiff]
 have g7:E 7=.int .i64 (l.length:Int):=by rw[hE]; simp only[ruU,entryE,Nat.reduceLT,Nat.reduceAdd,Nat.reduceMul,Nat.reduceEqDiff]
 have g8:E 8=.int .i64 ((0:Nat):Int):=by rw[hE]; (simp only[ruU,entryE,Nat.reduceLT,Nat.reduceAdd,Nat.reduceMul,Nat.reduceEqDiff]<;>rfl)
 clear hE
 refine blockC_meet (fun E' H'=>H'=ext H []∧spanR k l=l.length) ?_ ?_
 ·refine w_loop (fun (i:Nat) E' H'=>H'=ext H []∧E' 0=v∧E' 1=.func (.func 80) ⟨[]⟩ ⟨[.pointer (some ⟨q,0,none⟩)]⟩∧E' 7=.int .i64 (l.length:Int)∧E' 8=.int .i64 (i:Int)∧i≤l.length∧∀ j c,j<i→l[j]?=some c→c.look=k) (fun i=>l.length-i) 0
   ⟨rfl,g0,g1,g7,g8,zB2 _,fun j c hj=>by omega⟩ ?_
  clear g0 g1 g7 g8
  rintro i E H' ⟨hH,g0,g1,g7,g8,hk,hpre⟩
  rw[hH]
  have hbd:=spanR_drop k l i hpre hk
  by_cases hkl:i=l.length
  ·have hc:decide ((i:Int)<(l.length:Int))=false:=by simp[hkl]
   simp (maxDischargeDepth:=6) only[g0,g1,g7,g8,hc,ruW,putL,Nat.reduceLeDiff,xF,ruU,entryE,Nat.reduceLT,Nat.reduceAdd,Nat.reduceMul,Nat.reduceEqDiff]
   rw[zE3 (by omega),spanR]at hbd
   exact joinR_normal ⟨rfl,by omega⟩
  ·have hlt:i<l.length:=by omega
   have hc:decide ((i:Int)<(l.length:Int))=true:=decide_eq_true (by omega)
   rcases hr with⟨h,_⟩|⟨_,n1,o1,s1,x1,t1,p1,L1,rfl,b1,n1l,le1,tk1⟩
   ·rw[h]at hlt; simp at hlt
   obtain⟨r1,hr1⟩:∃ r,l[i]?=some r:=⟨_,zA6 hlt⟩
   have i1:=row_ia (n:=n1) (off:=o1) (s:=s1) (cap:=x1) (i:=(i:Int)) rfl hlt
   have q1:=row_load (e:=t1) (o:=p1) hr1 le1 tk1
   rw[hb]at n1l
   have hna:=other_c (ext H []) r1 k q hq
   obtain⟨d,hd⟩:∃ d,decide (r1.look=k)=d:=⟨_,rfl⟩
   rw[hd]at hna
   have hdr:l.drop i=r1::l.drop (i+1):=by
    rw[zG2 hlt]
    rw[zA6 hlt]at hr1
    rw[Option.some.inj hr1]
   rw[hdr,spanR]at hbd
   simp (maxDischargeDepth:=6) only[g0,g1,g7,g8,hb,hc,i1,b1,n1l,q1,qk_old,ruW,putL,Nat.reduceLeDiff,xF,ruU,entryE,Nat.reduceLT,Nat.reduceAdd,Nat.reduceMul,Nat.reduceEqDiff]
   refine w_callV (f:=80) (ca:=[.pointer (some ⟨q,0,none⟩)]) (by simp only[ruU,entryE,Nat.reduceLT,Nat.reduceAdd,Nat.reduceMul,Nat.reduceEqDiff]) (by simp only[g1,ruU,entryE,Nat.reduceLT,Nat.reduceAdd,Nat.reduceMul,Nat.reduceEqDiff]) (by simp only[ruU,entryE,Nat.reduceLT,Nat.reduceAdd,Nat.reduceMul,Nat.reduceEqDiff]) (by kernel_rfl) ?_
   simp only[ruU,entryE,Nat.reduceLT,Nat.reduceAdd,Nat.reduceMul,Nat.reduceEqDiff]
   refine (show CallS Tryd.prog 80 _ (ext H []) _ (ext H []) from hna).to ?_
   cases d with
   |true =>
    simp (maxDischargeDepth:=6) only[g0,g1,g7,g8,zD3,wrap_succ (show i<1000000 by omega),ruW,putL,Nat.reduceLeDiff,xF,ruU,entryE,Nat.reduceLT,Nat.reduceAdd,Nat.reduceMul,Nat.reduceEqDiff]
    refine loopC_next ⟨i+1,by omega,rfl,?_,?_,?_,?_,by omega,fun j c hj hq2=>?_⟩
    ·simp only[g0,ruU,entryE,Nat.reduceLT,Nat.reduceAdd,Nat.reduceMul,Nat.reduceEqDiff]
    ·simp only[g1,ruU,entryE,Nat.reduceLT,Nat.reduceAdd,Nat.reduceMul,Nat.reduceEqDiff]
    ·simp only[g7,ruU,entryE,Nat.reduceLT,Nat.reduceAdd,Nat.reduceMul,Nat.reduceEqDiff]
    ·simp only[g8,ruU,entryE,Nat.reduceLT,Nat.reduceAdd,Nat.reduceMul,Nat.reduceEqDiff]
    ·rcases zC4 j i with h|h
     ·exact hpre j c h hq2
     ·obtain rfl:j=i:=by omega
      rw[hr1]at hq2
      cases hq2
      exact of_decide_eq_true hd
   |false =>
    rw[if_neg (of_decide_eq_false hd),zB6]at hbd
    simp (maxDischargeDepth:=6) only[g0,g1,g7,g8,zE1,joinR_ret,Tryd.results79,ruW,putL,Nat.reduceLeDiff,xF,ruU,entryE,Nat.reduceLT,Nat.reduceAdd,Nat.reduceMul,Nat.reduceEqDiff]
    exact Fin.pureE (by rw[ixR,hbd,if_pos hlt]) rfl
 ·rintro E H' ⟨hH,hbd⟩
  rw[hH]
  simp (maxDischargeDepth:=6) only[Tryd.results79,ruW,putL,Nat.reduceLeDiff,xF,ruU,entryE,Nat.reduceLT,Nat.reduceAdd,Nat.reduceMul,Nat.reduceEqDiff]
  exact Fin.pureE (by rw[ixR,if_neg (by omega)]) rfl
def ExQ (H:AHeap) (n:Nat) (s:Option Nat):Prop:=s=some 0∨(s=none∧∃ b,bk H n=some b)
def SlE (H:AHeap) (sz:Nat) (u:Value) (L:List Value) (cnt:Nat):Prop :=
 ∃ n off s c e o M,u=.slice (some ⟨n,off,s⟩) cnt (cnt+c)∧ExQ H n s∧rk H n=some ⟨e,o,M⟩∧n<H.next∧off+cnt*sz≤M.length∧(M.drop off).take (cnt*sz)=L
section
variable {H G : AHeap} {u : Value} {L : List Value} {sz cnt : Nat}
theorem ExQ.of {n:Nat} {s:Option Nat} (h:ExQ H n s) (hg:G.get n=H.get n):ExQ G n s:=h.imp id fun⟨h1,b,h2⟩=>⟨h1,b,(bk_get hg).trans h2⟩
theorem SlE.of (h:SlE H sz u L cnt) (hn:H.next≤G.next) (hg:∀ n∈idsV u,G.get n=H.get n):SlE G sz u L cnt:=by
 obtain⟨n,off,s,c,e,o,M,rfl,h1,h2,h3,h4,h5⟩:=h
 have:=hg n (by simp[idsV])
 exact⟨n,off,s,c,e,o,M,rfl,h1.of this,(rk_get this).trans h2,by omega,h4,h5⟩
theorem SlE.ne (h:SlE H sz u L cnt):∀ n∈idsV u,H.get n≠none∧n<H.next:=by
 obtain⟨n,off,s,c,e,o,M,rfl,h1,h2,h3,h4,h5⟩:=h
 intro m hm
 simp only[idsV,zA8]at hm
 subst hm
 exact⟨rk_ne h2,h3⟩
theorem SlE.mod0 (h:SlE H sz u L cnt) (m:Mod [] H G):SlE G sz u L cnt:=h.of m.next fun n hn=>m.get n (h.ne n hn).2 (by simp)
theorem SlE.sc (h:SlE H sz u L cnt):scb H.next u=true:=by
 obtain⟨n,off,s,c,e,o,M,rfl,h1,h2,h3,h4,h5⟩:=h
 exact blt_of h3
theorem SlE.slice {P:Program} {t e:TypeId} (hu:P.underlying t=some (.slice e)) (hsz:szOf P e=some sz) (h0:sz≠0) (h:SlE H sz u L cnt) {x y:Option Value} {lo hi:Nat} (hx:bound 0 x=some lo) (hy:bound cnt y=some hi) (h1:lo≤hi) (h2:hi≤cnt) :
  ∃ u',(∀ G:AHeap,(∀ n∈idsV u,G.get n=H.get n)→aSlice P G t u x y none=some (u',G))∧(lo<hi→SlE H sz u' ((L.drop (lo*sz)).take ((hi-lo)*sz)) (hi-lo))∧(∃ a c,u'=.slice a (hi-lo) c)∧(∀ n∈idsV u',n∈idsV u)∧(∀ n,scb n u=true→scb n u'=true):=by
 obtain⟨n,off,s,c,e',o,M,rfl,hex,hb,hlt,hle,ht⟩:=h
 have hM:∀ k,k=lo→(M.drop (off+k*sz)).take ((hi-lo)*sz)=(L.drop (lo*sz)).take ((hi-lo)*sz):=fun k e=>by
  subst e
  have h3:(hi-k)*sz≤cnt*sz-k*sz:=by rw[←Nat.sub_mul]; exact Nat.mul_le_mul_right _ (by omega)
  rw[←ht,List.drop_take,zG0,List.take_take,Nat.min_eq_left h3]
 have hlen:off+lo*sz+(hi-lo)*sz≤M.length:=by
  have:lo*sz+(hi-lo)*sz=hi*sz:=by rw[←Nat.add_mul]; congr 1; omega
  have h3:hi*sz≤cnt*sz:=Nat.mul_le_mul_right _ h2
  omega
 have hq:∃ q:Bool,(∀ G:AHeap,G.get n=H.get n→exactAt G ⟨n,off,s⟩=some q):=by
  rcases hex with rfl|⟨rfl,b,hb'⟩
  ·exact⟨true,fun G hg=>rfl⟩
  ·exact⟨!b.o,fun G hg=>by simp only[exactAt,isOpen_bk ((bk_get hg).trans hb'),zA7]⟩
 obtain⟨q,hq⟩:=hq
 cases q with
 |true =>
  refine⟨.slice (some ⟨n,if cnt+c=lo then off else off+lo*sz,some 0⟩) (hi-lo) (cnt+c-lo),fun G hg=>?_,fun hlh=>?_,⟨_,_,rfl⟩,fun q hq=>by simpa[idsV]using hq,fun q hq=>by simpa[scb]using hq⟩
  ·simp only[aSlice,hu,hsz,zA1,zA3,aSlice2,hx,hy,hq G (hg n (by simp[idsV]))]
   rw[if_pos ⟨by omega,h1⟩]
  ·rw[if_neg (by omega)]
   exact⟨n,_,some 0,cnt+c-hi,e',o,M,by rw[show hi-lo+(cnt+c-hi)=cnt+c-lo by omega],.inl rfl,hb,hlt,hlen,hM lo rfl⟩
 |false =>
  obtain⟨rfl,b,hb'⟩:s=none∧∃ b,bk H n=some b:=by
   rcases hex with rfl|h
   ·have:=hq H rfl
    simp[exactAt]at this
   ·exact h
  by_cases hl0:lo=0
  ·subst hl0
   refine⟨.slice (some ⟨n,off,none⟩) hi (cnt+c),fun G hg=>?_,fun hlh=>?_,⟨_,_,by rw[Nat.sub_zero]⟩,fun q hq=>by simpa[idsV]using hq,fun q hq=>by simpa[scb]using hq⟩
   ·simp only[aSlice,hu,hsz,zA1,zA3,aSlice2,hx,hy,hq G (hg n (by simp[idsV]))]
    rw[if_pos ⟨by omega,h1⟩]
    simp only[if_true]
   ·have hM0:=hM 0 rfl
    rw[zE8]at hlen hM0
    exact⟨n,off,none,cnt+c-hi,e',o,M,by rw[Nat.sub_zero,show hi+(cnt+c-hi)=cnt+c by omega],.inr ⟨rfl,b,hb'⟩,hb,hlt,hlen,by rw[zE8]; exact hM0⟩
  ·by_cases hlc:lo<cnt+c
   ·refine⟨.slice (some ⟨n,off+lo*sz,none⟩) (hi-lo) (cnt+c-lo),fun G hg=>?_,fun hlh=>?_,⟨_,_,rfl⟩,fun q hq=>by simpa[idsV]using hq,fun q hq=>by simpa[scb]using hq⟩
    ·simp only[aSlice,hu,hsz,zA1,zA3,aSlice2,hx,hy,hq G (hg n (by simp[idsV]))]
     rw[if_pos ⟨by omega,h1⟩,if_neg hl0,if_pos hlc]
    ·exact⟨n,_,none,cnt+c-hi,e',o,M,by rw[show hi-lo+(cnt+c-hi)=cnt+c-lo by omega],.inr ⟨rfl,b,hb'⟩,hb,hlt,hlen,hM lo rfl⟩
   ·refine⟨.slice (some ⟨n,off+lo*sz,some (off+1)⟩) 0 0,fun G hg=>?_,fun hlh=>absurd hlh (by omega),⟨_,0,by rw[show hi-lo=0 by omega]⟩,fun q hq=>by simpa[idsV]using hq,fun q hq=>by simpa[scb]using hq⟩
    simp only[aSlice,hu,hsz,zA1,zA3,aSlice2,hx,hy,hq G (hg n (by simp[idsV]))]
    rw[if_pos ⟨by omega,h1⟩,if_neg hl0,if_neg hlc,if_neg h0]
end
def RowS (H:AHeap) (v:Value) (l:List Ce):Prop:=(l=[]∧∃ a c,v=.slice a 0 c)∨(l≠[]∧SlE H 6 v (csOf l) l.length)
def GridS (H:AHeap) (v:Value) (g:List (List Ce)):Prop :=
 (g=[]∧∃ a c,v=.slice a 0 c)∨(g≠[]∧∃ rvs,rvs.length=g.length∧SlE H 1 v rvs g.length∧∀ (k:Nat) (row:List Ce),g[k]?=some row→∃ rv,rvs[k]?=some rv∧RowS H rv row)
section
variable {H G : AHeap} {v : Value} {l : List Ce} {g : List (List Ce)}
theorem RowS.at_ (h:RowS H v l):RowAt H v l:=by
 rcases h with h|⟨h0,n,off,s,c,e,o,M,rfl,h1,h2,h3,h4,h5⟩
 ·exact .inl h
 ·exact .inr ⟨h0,n,off,s,_,e,o,M,rfl,h2,h3,h4,h5⟩
theorem RowS.of (h:RowS H v l) (hn:H.next≤G.next) (hg:∀ n∈idsV v,G.get n=H.get n):RowS G v l:=h.imp id fun⟨h0,h1⟩=>⟨h0,h1.of hn hg⟩
theorem RowS.mod0 (h:RowS H v l) (m:Mod [] H G):RowS G v l:=h.imp id fun⟨h0,h1⟩=>⟨h0,h1.mod0 m⟩
theorem RowS.sl (h:RowS H v l):∃ a c,v=.slice a l.length c:=h.at_.sl
theorem GridS.at_ (h:GridS H v g):GridAt H v g:=by
 rcases h with h|⟨h0,rvs,hl,⟨n,off,s,c,e,o,M,rfl,h1,h2,h3,h4,h5⟩,hr⟩
 ·exact .inl h
 ·refine .inr ⟨h0,n,off,s,_,e,o,M,rfl,h2,h3,by omega,fun k row hk=>?_⟩
  obtain⟨rv,h6,h7⟩:=hr k row hk
  refine⟨rv,?_,h7.at_⟩
  rw[←h5,List.getElem?_take,if_pos (by have:=(zD4.1 hk).1; omega),List.getElem?_drop]at h6
  exact h6
theorem GridS.mod0 (h:GridS H v g) (m:Mod [] H G):GridS G v g:=h.imp id fun⟨h0,rvs,h1,h2,h3⟩=>⟨h0,rvs,h1,h2.mod0 m,fun k row hk=>let ⟨rv,h4,h5⟩:=h3 k row hk; ⟨rv,h4,h5.mod0 m⟩⟩
theorem csOf_part (l:List Ce) (lo hi:Nat):((csOf l).drop (lo*6)).take ((hi-lo)*6)=csOf ((l.take hi).drop lo):=by
 have e1:∀ (l:List Ce) (k:Nat),(csOf l).drop (k*6)=csOf (l.drop k):=fun l k=>by
  rcases zC4 k l.length with h|h
  ·have e:l=l.take k++l.drop k:=(List.take_append_drop k l).symm
   have hk:(csOf (l.take k)).length=k*6:=by rw[csOf_length,zD9]; omega
   conv=>lhs; rw[e,csOf_append]
   rw[←hk,List.drop_left]
  ·rw[zE3 (by rw[csOf_length]; omega),zE3 h]; rfl
 have e2:∀ (l:List Ce) (k:Nat),(csOf l).take (k*6)=csOf (l.take k):=fun l k=>by
  rcases zC4 k l.length with h|h
  ·have e:l=l.take k++l.drop k:=(List.take_append_drop k l).symm
   have hk:(csOf (l.take k)).length=k*6:=by rw[csOf_length,zD9]; omega
   conv=>lhs; rw[e,csOf_append]
   rw[←hk,List.take_left]
  ·rw[zF1 (by rw[csOf_length]; omega),zF1 h]
 rw[e1,e2,List.drop_take]
theorem RowS.slice (h:RowS H v l) (hne:l≠[]) {x y:Option Value} {lo hi:Nat} (hx:bound 0 x=some lo) (hy:bound l.length y=some hi) (h1:lo≤hi) (h2:hi≤l.length) :
  ∃ u',(∀ G:AHeap,(∀ n∈idsV v,G.get n=H.get n)→aSlice Tryd.prog G 56 v x y none=some (u',G))∧RowS H u' ((l.take hi).drop lo)∧(∀ n∈idsV u',n∈idsV v)∧(∀ n,scb n v=true→scb n u'=true):=by
 rcases h with⟨h,_⟩|⟨_,h⟩
 ·exact absurd h hne
 obtain⟨u',ha,hb,⟨a,c,hc⟩,hd,he⟩:=h.slice (P:=Tryd.prog) (t:=56) (e:=55) (by kernel_rfl) (by kernel_rfl) (by omega) hx hy h1 h2
 have hl:((l.take hi).drop lo).length=hi-lo:=by simp; omega
 refine⟨u',ha,?_,hd,he⟩
 by_cases hz:lo=hi
 ·exact .inl ⟨zD0 (by omega),a,c,by rw[hc,show hi-lo=0 by omega]⟩
 ·refine .inr ⟨fun e=>by rw[e]at hl; simp at hl; omega,?_⟩
  have:=hb (by omega)
  rw[csOf_part]at this
  rw[hl]
  exact this
theorem GridS.slice (h:GridS H v g) (hne:g≠[]) {x y:Option Value} {lo hi:Nat} (hx:bound 0 x=some lo) (hy:bound g.length y=some hi) (h1:lo≤hi) (h2:hi≤g.length) :
  ∃ u',(∀ G:AHeap,(∀ n∈idsV v,G.get n=H.get n)→aSlice Tryd.prog G 22 v x y none=some (u',G))∧GridS H u' ((g.take hi).drop lo)∧(∀ n∈idsV u',n∈idsV v)∧(∀ n,scb n v=true→scb n u'=true):=by
 rcases h with⟨h,_⟩|⟨_,rvs,hlr,h,hr⟩
 ·exact absurd h hne
 obtain⟨u',ha,hb,⟨a,c,hc⟩,hd,he⟩:=h.slice (P:=Tryd.prog) (t:=22) (e:=56) (by kernel_rfl) (by kernel_rfl) (by omega) hx hy h1 h2
 have hl:((g.take hi).drop lo).length=hi-lo:=by simp; omega
 refine⟨u',ha,?_,hd,he⟩
 by_cases hz:lo=hi
 ·exact .inl ⟨zD0 (by omega),a,c,by rw[hc,show hi-lo=0 by omega]⟩
 ·refine .inr ⟨fun e=>by rw[e]at hl; simp at hl; omega,(rvs.drop lo).take (hi-lo),by simp; omega,?_,fun k row hk=>?_⟩
  ·have:=hb (by omega)
   rw[Nat.mul_one,Nat.mul_one]at this
   rw[hl]
   exact this
  ·rw[List.getElem?_drop,List.getElem?_take]at hk
   split at hk
   ·rename_i hk2
    obtain⟨rv,h3,h4⟩:=hr _ _ hk
    exact⟨rv,by rw[List.getElem?_take,if_pos (by omega),List.getElem?_drop]; exact h3,h4⟩
   ·cases hk
theorem OwnRow.rowS {N:Nat} {rv:Value} (h:OwnRow N H rv l):RowS H rv l:=by
 obtain⟨n,t,c,o,rfl,hb,h1,h2⟩:=h
 by_cases hl:l=[]
 ·subst hl; exact .inl ⟨rfl,_,_,rfl⟩
 ·refine .inr ⟨hl,n,0,spOf t,c,_,o,csOf l,rfl,?_,rk_of hb,h2,by rw[csOf_length]; omega,by rw[zD6,zF1 (by rw[csOf_length]; exact zA4 _)]⟩
  cases t with
  |false=>exact .inl rfl
  |true=>exact .inr ⟨rfl,_,hb⟩
end
def OpsW (H:AHeap) (v:Value) (l:List Op):Prop:=VsAt H 47 10 v (opsOf l) l.length
theorem OpsW.nil {H:AHeap}:OpsW H (.slice none 0 0) []:=VsAt.nil
theorem OpsW.of {H G:AHeap} {v:Value} {l:List Op} (h:OpsW H v l) (hn:H.next≤G.next) (hg:∀ n∈idsV v,G.get n=H.get n):OpsW G v l:=VsAt.of h hn hg
theorem OpsW.ne {H:AHeap} {v:Value} {l:List Op} (h:OpsW H v l):∀ n∈idsV v,H.get n≠none∧n<H.next:=VsAt.ne h
theorem OpsW.sc {H:AHeap} {v:Value} {l:List Op} (h:OpsW H v l):scb H.next v=true:=VsAt.sc h
theorem OpsW.len {H:AHeap} {v:Value} {l:List Op} (h:OpsW H v l):∃ a,v=.slice a l.length l.length:=VsAt.len h
theorem OpsW.mod0 {H G:AHeap} {v:Value} {l:List Op} (h:OpsW H v l) (m:Mod [] H G):OpsW G v l:=h.of m.next fun n hn=>m.get n (h.ne n hn).2 (by simp)
theorem OpsW.at_ {H:AHeap} {v:Value} {l:List Op} (h:OpsW H v l):OpsAt H v l:=by
 obtain⟨h1,h2,⟨h3,rfl⟩|⟨h3,n,rfl,hb,hn⟩⟩:=h
 ·exact .inl ⟨zD0 h3,_,_,rfl⟩
 ·refine .inr ⟨fun e=>by rw[e]at h3; simp at h3,n,0,none,_,_,_,_,rfl,rk_of hb,hn,by rw[opsOf_len]; omega,?_⟩
  rw[zD6,zF1 (by rw[opsOf_len]; exact zA4 _)]
theorem opsW_app {H:AHeap} {v u:Value} {l l2:List Op} (h:OpsW H v l) (hp:OpsAt H u l2) (hok:H.base≤H.next) (hl:l.length+l2.length≤100000) :
  ∃ v' G,aBuiltin Tryd.prog H .append ⟨[28,28]⟩ [v,u]=some (v',G)∧OpsW G v' (l++l2)∧Mod (idsV v) H G∧∀ n∈idsV v',n∈idsV v∨H.next≤n:=by
 by_cases h0:l=[]
 ·subst h0
  obtain⟨h1,h2,⟨h3,rfl⟩|⟨h3,n,e,hb,hn⟩⟩:=h
  ·rw[zB8]
   by_cases h2:l2=[]
   ·subst h2
    obtain⟨a,c,rfl⟩:=hp.sl
    have hle:Go.Ax.lenV (.slice a ([]:List Op).length c)=some 0:=rfl
    have hfi:firstC H 10 0 (.slice a ([]:List Op).length c)=some []:=by
     cases a with
     |none=>rfl
     |some a=>simp only[firstC,if_true]
    exact⟨_,H,app_nn (P:=Tryd.prog) (st:=28) (xt:=28) o_und o_sz o_by o_zero rfl o_int hle hfi,OpsW.nil,Mod.refl,fun n hn=>.inl hn⟩
   ·rcases hp with⟨e,_⟩|⟨_,n,off,s,c,e,o,L,rfl,hb,hnl,hle,ht⟩
    ·exact absurd e h2
    have hpos:0<l2.length:=List.length_pos_iff.2 h2
    obtain⟨G,ga,gb,gc,gd,ge⟩:=vs_app (P:=Tryd.prog) (H:=H) (st:=28) (xt:=28) (e:=47) (sz:=10) (by1:=72) (n:=n) (off:=off) (cnt2:=l2.length) (cap:=c) (s:=s) (x:=H.next) (ws:=opsOf l2) (b:=⟨e,o,L⟩)
     o_und o_sz o_by o_zero rfl o_int (VsAt.nil (H:=H) (e:=47) (sz:=10)) hb hle ht (ops_one l2) hpos (o_small (by simpa using hl)) rfl (scbL_append rfl (ops_sc _ _))
    rw[zB6,zB8]at gb
    rw[zB6]at ga
    exact⟨_,G,ga,gb,gc hok,fun q hq=>.inr (by simp only[idsV,zA8]at hq; omega)⟩
  ·simp at h3
 ·obtain⟨v',G,ga,gb,gc,gd⟩:=opsV_app (m:=0) (.inr ⟨h0,h⟩) hp hok hl
  refine⟨v',G,ga,?_,gc,gd⟩
  rcases gb with⟨e,_⟩|⟨_,gb⟩
  ·simp[h0]at e
  ·exact gb
section
variable {Z : AHeap} {N : Nat} {E : Env} {ds : List Deferred} {ops : Array Oper} {anc : List Nat} {ty : TypeId} {pos : String} {after : Array Edge} {rest : List Oper} {i d : Nat} {fps : List Fp} {Q : AAct → AHeap → Prop} {v u : Value} {l l2 : List Op}
theorem genV_appW {args:List Operand} (h:OpsW Z v l) (hp:OpsAt Z u l2) (hnu:∀ n∈idsV u,l2≠[]→n<Z.next∧Z.get n≠none) (hok:Z.base≤Z.next) (hl:l.length+l2.length≤100000)
  (hd:d<N) (ha:args.all (opOk Tryd.prog N)=true) (hv:args.map (opv E)=[v,u]) (hm:∀ r∈fps,(anc.getD i 0).testBit r.i=true∨(r.hi≤r.lo∧(∀ n∈r.W,n∉idsV v++idsV u)∧(∀ n∈r.F,n∉idsV v)))
  (hk:∀ v' Z' D F,Mod (idsV v) Z Z'→OpsW Z' v' (l++l2)→(∀ n∈idsV v',n∈idsV v∨Z.next≤n)→(∀ n∈D,n∈idsV v)→wkD Tryd.prog ops anc rest (i+1) (⟨i,F,D,Z.next,Z'.next⟩::fps) (mkA N (upd E d v') ds) Z' Q) :
  genV Tryd.prog ops anc ⟨some d,.call ⟨.builtin .append,⟨args⟩,⟨[28,28]⟩⟩,ty,pos,after,none⟩ rest i fps (mkA N E ds) Z Q:=by
 obtain⟨W,hW⟩:∃ W,W=if l2=[] then [] else idsV u:=⟨_,rfl⟩
 have hrn:=restrict_next Z (idsV v++W)
 have hg:∀ n,n∈idsV v++W→(Z.restrict (idsV v++W)).get n=Z.get n:=fun n hn=>by rw[restrict_get,if_pos hn]
 have hpR:OpsAt (Z.restrict (idsV v++W)) u l2:=by
  by_cases h2:l2=[]
  ·obtain⟨a,c,e⟩:=hp.sl
   subst h2
   exact .inl ⟨rfl,a,c,e⟩
  ·exact hp.of (by rw[hrn.1]; exact zA4 _) fun n hn=>hg n (zE2 _ (by rw[hW,if_neg h2]; exact hn))
 obtain⟨v',G,ga,gb,gc,gd⟩:=opsW_app (h.of (G:=Z.restrict (idsV v++W)) (by rw[hrn.1]; exact zA4 _) fun n hn=>hg n (zE4 _ hn)) hpR (by rw[hrn.1,hrn.2.1]; exact zA4 _) hl
 rw[hrn.1]at gd
 have hWn:∀ n∈W,n<Z.next∧Z.get n≠none:=fun n hn=>by
  rw[hW]at hn
  split at hn
  ·simp at hn
  ·rename_i h2; exact hnu n hn h2
 refine genV_modO (W:=idsV v) (idsV v++W) hok (fun n hn=>?_) (fun n hn=>?_) (fun n hn=>zE4 _ hn) (app_op (v:=v') (G:=G) ha (by rw[hv]; exact ga)) gc (fun r hr=>(hm r hr).imp id fun h=>⟨h.1,fun n hn hF=>h.2.1 n hn (by
   rcases zB5.1 hF with h3|h3
   ·exact zE4 _ h3
   ·refine zE2 _ ?_
    rw[hW]at h3
    split at h3
    ·simp at h3
    ·exact h3),h.2.2⟩) ?_
 ·rcases zB5.1 hn with hn|hn
  ·exact (h.ne n hn).1
  ·exact (hWn n hn).2
 ·rcases zB5.1 hn with hn|hn
  ·exact (h.ne n hn).2
  ·exact (hWn n hn).1
 intro Z' D m1 m2 m3 m4 m5
 have gl:=gc.next
 rw[hrn.1]at gl
 have hv':OpsW Z' v' (l++l2):=gb.of (by omega) fun n hn=>by
  rcases gd n hn with h5|h5
  ·exact m2 n (zE4 _ h5)
  ·exact m3 n h5 (gb.ne n hn).2
 have:=hk v' Z' D (idsV v++W) m1 hv' gd m5
 rw[m4]at this
 rw[put_some N E ds d v' hd]
 rw[←m4]at this ⊢
 exact this
end
def KpN (N:Nat) (F:List Nat) (H X:AHeap):Prop:=∃ W:List Nat,(∀ n∈W,N≤n∧n∉F)∧Mod W H X
section
variable {N : Nat} {F : List Nat} {H X Y : AHeap}
theorem KpN.refl:KpN N F H H:=⟨[],by simp,Mod.refl⟩
theorem KpN.of0 (m:Mod [] H X):KpN N F H X:=⟨[],by simp,m⟩
theorem KpN.trans (m:KpN N F H X) (k:KpN N F X Y):KpN N F H Y:=by
 obtain⟨W,h1,m⟩:=m
 obtain⟨V,h2,k⟩:=k
 exact⟨W++V,fun n hn=>(zB5.1 hn).elim (h1 n) (h2 n),(m.mono fun n h=>zE4 _ h).trans (k.mono fun n h=>zE2 _ h)⟩
theorem KpN.next (m:KpN N F H X):H.next≤X.next:=let ⟨_,_,m⟩:=m; m.next
theorem KpN.ok (m:KpN N F H X) (h:H.base≤H.next):X.base≤X.next:=let ⟨_,_,m⟩:=m; m.ok h
theorem KpN.get (m:KpN N F H X) {n:Nat} (hl:n<H.next) (h:n<N∨n∈F):X.get n=H.get n:=by
 obtain⟨W,h1,m⟩:=m
 refine m.get n hl fun hw=>?_
 rcases h with h|h
 ·have:=(h1 n hw).1; omega
 ·exact (h1 n hw).2 h
theorem KpN.mod {G:AHeap} (m:KpN N F H X) (g:Mod [] G H) (hok:G.base≤G.next) (hN:G.next≤N):Mod [] G X:=by
 obtain⟨W,h1,m⟩:=m
 exact g.step m hok fun n hn=>.inr (zD1 hN (h1 n hn).1)
theorem RowS.kp {v:Value} {l:List Ce} (h:RowS H v l) (m:KpN N F H X) (hi:∀ n∈idsV v,n<N∨n∈F):RowS X v l:=by
 rcases id h with⟨h0,h1⟩|⟨h0,h1⟩
 ·exact .inl ⟨h0,h1⟩
 ·exact h.of m.next fun n hn=>m.get (h1.ne n hn).2 (hi n hn)
end
structure WrAt (N:Nat) (F:List Nat) (H:AHeap) (p:Nat) (v:Value) (l:List Op) (k:Lk):Prop where
 cell:bk H p=some ⟨64,false,[v,.int .i64 k.fore,.int .i64 k.back,.bool k.bold,.bool k.under,.bool k.inv]⟩
 ops:OpsW H v l
 apart:p∉idsV v
 lt:p<H.next
 lo:N≤p
 pF:p∉F
 ids:∀ n∈idsV v,N≤n∧n∉F
 fl:∀ n∈F,n<H.next
theorem WrAt.of {N:Nat} {F:List Nat} {H G:AHeap} {p:Nat} {v:Value} {l:List Op} {k:Lk} (a:WrAt N F H p v l k) (m:Mod [] H G):WrAt N F G p v l k :=
 ⟨(m.bk a.lt (by simp)).trans a.cell,a.ops.mod0 m,a.apart,m.lt a.lt,a.lo,a.pF,a.ids,fun n hn=>m.lt (a.fl n hn)⟩
theorem put_c (N:Nat) (F:List Nat) (H:AHeap) (p:Nat) (v:Value) (l:List Op) (k:Lk) (o:Op) (a:WrAt N F H p v l k) (hok:H.base≤H.next) (hl:l.length≤90000) (hN:N≤H.next) :
  CallA Tryd.prog 37 [.pointer (some ⟨p,0,none⟩),o.val] H (fun out X=>out=.ok (.tuple #[])∧∃ v',WrAt N F X p v' (l++[o]) k∧KpN N F H X):=by
 obtain⟨x,hx⟩:∃ x,H.next=x:=⟨_,rfl⟩
 have hxb:H.base≤x:=hx▸hok
 have hp:=a.lt
 rw[hx]at hp
 refine callE_fn mixed Tryd.func37 rfl Tryd.ntmps37 (zA9 rfl) ?_
 simp (maxDischargeDepth:=6) only[Op.val,Op.cells,hx,hxb,ruW,putL,Nat.reduceLeDiff,xF,ruU,entryE,Nat.reduceLT,Nat.reduceAdd,Nat.reduceMul,Nat.reduceEqDiff]
 generalize hX:ext H _=X
 have mX:Mod [] H X:=hX▸Mod.ext hok
 have nX:X.next=x+1:=by rw[←hX,ext_next,hx]; rfl
 have kX:bk X (x+0)=some ⟨47,false,o.cells⟩:=by rw[←hX,bk_at hx (by simp)]; rfl
 have okX:=mX.ok hok
 have aX:=a.of mX
 have kp:=aX.cell
 have hpX:p<x+1:=by omega
 have hxX:x+0<x+1:=by omega
 rw[show X=ext X [] from rfl]
 refine w_drawB [(7,4),(7,5),(7,6),(10,4),(10,5),(10,6),(10,7)] [] (by kernel_rfl) (by kernel_rfl) rfl fun ops anc hA hG=>?_
 simp only[all2_cons]at hA
 simp only[Op.cells]at kX
 simp (maxDischargeDepth:=6) only[nX,kX,kp,hpX,hxX,hA,ruD,ruW,putL,Nat.reduceLeDiff,xF,ruU,entryE,Nat.reduceLT,Nat.reduceAdd,Nat.reduceMul,Nat.reduceEqDiff]
 rw[wd_app (by simp only[ruU,entryE,Nat.reduceLT,Nat.reduceAdd,Nat.reduceMul,Nat.reduceEqDiff])]
 generalize hY:ext X _=Y
 have mY:Mod [] X Y:=hY▸Mod.ext okX
 have nY:Y.next=x+2:=by rw[←hY,ext_next,nX]; rfl
 have kY:bk Y (x+1+0)=some ⟨47,false,o.cells⟩:=by rw[←hY,bk_at nX (by simp)]; rfl
 have okY:=mY.ok okX
 have aY:=aX.of mY
 have hu:OpsAt Y (.slice (some ⟨x+1+0,0,some 0⟩) 1 1) [o]:=.inr ⟨by simp,_,0,some 0,1,_,_,_,rfl,rk_of kY,by omega,by simp[Op.cells],by simp[opsOf,Op.cells]⟩
 refine genV_appW (l2:=[o]) aY.ops hu (fun n hn _=>?_) okY (by simp only[List.length_singleton]; omega) (by decide) (by simp only[ruU,entryE,Nat.reduceLT,Nat.reduceAdd,Nat.reduceMul,Nat.reduceEqDiff]) (by simp only[ruU,entryE,Nat.reduceLT,Nat.reduceAdd,Nat.reduceMul,Nat.reduceEqDiff]) (by simp only[all2_cons,all2_nil,hA,true_or,and_true]) ?_
 ·simp only[idsV,zA8]at hn
  subst hn
  exact⟨by omega,bk_ne kY⟩
 intro v' Z D F' mZ hZ hid hD
 have kZ:bk Z p=some ⟨64,false,[v,.int .i64 k.fore,.int .i64 k.back,.bool k.bold,.bool k.under,.bool k.inv]⟩:=(mZ.bk aY.lt aY.apart).trans aY.cell
 obtain⟨z,hz⟩:∃ z,Z.next=z:=⟨_,rfl⟩
 have hpz:p<z:=by have:=mZ.next; omega
 obtain⟨av,ev⟩:=hZ.len
 have hsc:=hZ.sc
 have hid':=hid
 have hZ':=hZ
 subst ev
 rw[hz]at hsc
 rw[show Z=ext Z [] from rfl]
 simp (maxDischargeDepth:=6) only[hz,kZ,hpz,hsc,hA,Tryd.results37,ruD,ruW,putL,Nat.reduceLeDiff,xF,ruU,entryE,Nat.reduceLT,Nat.reduceAdd,Nat.reduceMul,Nat.reduceEqDiff]
 generalize hU:uw Z p 0 _=U
 have mU:Mod [p] Z U:=hU▸Mod.uw (by simp)
 have hU2:bk U p=some ⟨64,false,[.slice av (l++[o]).length (l++[o]).length,.int .i64 k.fore,.int .i64 k.back,.bool k.bold,.bool k.under,.bool k.inv]⟩:=by rw[←hU,bk_uw_eq,kZ]; rfl
 have hyz:=mZ.next
 have hpl:=a.lt
 refine⟨⟨fun _=>.inr (.inl (by omega)),.inr (.inl (by omega))⟩,⟨fun _=>.inr (.inl (by omega)),.inr (.inl (by omega))⟩,.slice av (l++[o]).length (l++[o]).length,⟨hU2,?_,?_,mU.lt (by omega),a.lo,a.pF,?_,fun n hn=>?_⟩,?_⟩
 ·refine hZ'.of mU.next fun n hn=>mU.get n (hZ'.ne n hn).2 (fun e=>?_)
  rw[zA8]at e
  subst e
  rcases hid' n hn with h|h
  ·exact aY.apart h
  ·have:=aY.lt; omega
 ·intro h
  rcases hid' p h with h|h
  ·exact aY.apart h
  ·have:=aY.lt; omega
 ·intro n hn
  rcases hid' n hn with h|h
  ·exact a.ids n h
  ·exact⟨by omega,fun hf=>by have:=aY.fl n hf; omega⟩
 ·have:=a.fl n hn
  rw[ext_next]
  have:=mU.next
  omega
 ·have m1:KpN N F H Y:=KpN.of0 (mX.trans mY)
  have m2:KpN N F Y Z:=⟨_,aY.ids,mZ⟩
  exact (m1.trans m2).trans ⟨[p],fun n hn=>by rw[zA8]at hn; subst hn; exact⟨a.lo,a.pF⟩,mU⟩
set_option maxRecDepth 100000
theorem xD :
  (∀ n off:Nat,aFieldAddr Tryd.prog 64 (.pointer (some ⟨n,off,none⟩)) 1=some (.pointer (some ⟨n,off+1,none⟩))) ∧
  (szOf Tryd.prog 62=some 1) ∧
  (aggT Tryd.prog 62=some false) ∧
  (aggT Tryd.prog 64=some true) ∧
  (zeroOf Tryd.prog 62=some (.pointer none)) ∧
  (zeroOf Tryd.prog 64=some (.agg #[.slice none 0 0,.int .i64 0,.int .i64 0,.bool false,.bool false,.bool false])) ∧
  (hasBody Tryd.prog 54=true) ∧
  (hasBody Tryd.prog 55=true) ∧
  (hasBody Tryd.prog 56=true) ∧
  (hasBody Tryd.prog 57=true) ∧
  (hasBody Tryd.prog 59=true) ∧
  (hasBody Tryd.prog 60=true) ∧
  (hasBody Tryd.prog 78=true) ∧
  (hasBody Tryd.prog 80=true) ∧
  (hasBody Tryd.prog 81=true) ∧
  (hasBody Tryd.prog 82=true) ∧
  (aBuild Tryd.prog 47 []=some (.agg #[.int .i64 0,.int .i64 0,.int .i64 0,.int .i64 0,.int .i64 0,.int .i64 0,.bool false,.bool false,.bool false,.string .empty])) ∧
  (∀ (x:Int) (s:ByteArray),aBuild Tryd.prog 47 [(0,.int .i64 x),(5,.string s)]=some (.agg #[.int .i64 x,.int .i64 0,.int .i64 0,.int .i64 0,.int .i64 0,.int .i64 0,.bool false,.bool false,.bool false,.string s])):=by
 refine⟨?_,?_,?_,?_,?_,?_,?_,?_,?_,?_,?_,?_,?_,?_,?_,?_,?_,?_⟩
 all_goals first|trivial|(intros; kernel_rfl)
section
variable {N q p : Nat} {F : List Nat} {H X : AHeap} {v : Value} {l : List Op} {k : Lk}
theorem WrAt.weak (a:WrAt N (q::F) H p v l k):WrAt N F H p v l k :=
 ⟨a.cell,a.ops,a.apart,a.lt,a.lo,fun h=>a.pF (zB3 _ h),fun n hn=>⟨(a.ids n hn).1,fun h=>(a.ids n hn).2 (zB3 _ h)⟩,fun n hn=>a.fl n (zB3 _ hn)⟩
theorem KpN.weak (m:KpN N (q::F) H X):KpN N F H X:=let ⟨W,h,m⟩:=m; ⟨W,fun n hn=>⟨(h n hn).1,fun hf=>(h n hn).2 (zB3 _ hf)⟩,m⟩
theorem WrAt.more (a:WrAt N F H p v l k) (m:Mod [] H X) (h1:H.next≤q) (h2:q<X.next):WrAt N (q::F) X p v l k:=by
 have a':=a.of m
 refine⟨a'.cell,a'.ops,a'.apart,a'.lt,a'.lo,fun h=>?_,fun n hn=>⟨(a.ids n hn).1,fun h=>?_⟩,fun n hn=>?_⟩
 ·rcases zB1.1 h with h|h
  ·have:=a.lt; omega
  ·exact a.pF h
 ·rcases zB1.1 h with h|h
  ·have:=(a.ops.ne n hn).2; omega
  ·exact (a.ids n hn).2 h
 ·rcases zB1.1 hn with h|h
  ·omega
  ·exact a'.fl n h
theorem WrAt.pen {U:AHeap} {j:Lk} (a:WrAt N F H p v l k) (m:Mod [p] H U) (h:bk U p=some ⟨64,false,[v,.int .i64 j.fore,.int .i64 j.back,.bool j.bold,.bool j.under,.bool j.inv]⟩):WrAt N F U p v l j :=
 ⟨h,a.ops.of m.next fun n hn=>m.get n (a.ops.ne n hn).2 (fun e=>a.apart (by rw[zA8]at e; exact e▸hn)),a.apart,m.lt a.lt,a.lo,a.pF,a.ids,fun n hn=>m.lt (a.fl n hn)⟩
theorem KpN.ofp {U:AHeap} (a:WrAt N F H p v l k) (m:Mod [p] H U):KpN N F H U:=⟨[p],fun n hn=>by rw[zA8]at hn; subst hn; exact⟨a.lo,a.pF⟩,m⟩
end
theorem writeR_nil (f:Nat) (k:Lk):writeR f [] k=([],k):=by cases f<;>rfl
theorem runesR_len (l:List Ce):(runesR l).length≤l.length:=by
 refine zD1 (List.length_filter_le _ _) ?_
 rw[List.length_map]; exact zA4 _
theorem runesR_take {l:List Ce} {j:Nat} {c:Ce} (h:l[j]?=some c):runesR (l.take (j+1))=runesR (l.take j)++(if c.rune=-1 then [] else [c.rune]):=by
 rw[List.take_add_one,h]
 simp only[runesR,List.map_append,List.filter_append,Option.toList_some,zB9,zF5]
 by_cases hc:c.rune=-1<;>simp[hc]
theorem piece56_c (N:Nat) (F:List Nat) (H:AHeap) (p:Nat) (v u:Value) (l:List Op) (k:Lk) (cs:List Ce) (row i:Nat) (a:WrAt N F H p v l k) (hr:RowS H u cs) (hi:∀ n∈idsV u,n<N∨n∈F) (hok:H.base≤H.next) (hN:N≤H.next) (hl:l.length+2*cs.length≤80000) (hcs:cs.length≤10000) (hc:∀ c∈cs,c.rune≠-1→isR c.rune=true) :
  CallA Tryd.prog 56 [.pointer (some ⟨p,0,none⟩),.int .i64 (row:Int),.int .i64 (i:Int),u] H (fun out X=>out=.ok (.tuple #[])∧∃ v',WrAt N F X p v' (l++(runsR row i cs k).1) (runsR row i cs k).2∧KpN N F H X):=by
 refine callE_fn mixed Tryd.func56 rfl Tryd.ntmps56 (zA9 rfl) ?_
 simp (maxDischargeDepth:=6) only[xD,ruW,putL,Nat.reduceLeDiff,xF,ruU,entryE,Nat.reduceLT,Nat.reduceAdd,Nat.reduceMul,Nat.reduceEqDiff]
 refine (put_c N F (ext H []) p v l k (opM row i) a hok (by omega) hN).mono ?_
 rintro _ X ⟨rfl,v1,a1,kp1⟩
 replace kp1:KpN N F H X:=kp1
 obtain⟨L,hL⟩:∃ L,l++(runsR row i cs k).1=L:=⟨_,rfl⟩
 obtain⟨K,hK⟩:∃ K,(runsR row i cs k).2=K:=⟨_,rfl⟩
 rw[hL,hK]
 simp only[runsR]at hL hK
 rw[show X=ext X [] from rfl]
 simp (maxDischargeDepth:=6) only[xD,ruW,putL,Nat.reduceLeDiff,xF,ruU,entryE,Nat.reduceLT,Nat.reduceAdd,Nat.reduceMul,Nat.reduceEqDiff]
 refine w_env fun E hE=>?_
 have g0:E 0=.pointer (some ⟨p,0,none⟩):=by rw[hE]; simp only[ruU,entryE,Nat.reduceLT,Nat.reduceAdd,Nat.reduceMul,Nat.reduceEqDiff]
 have g3:E 3=u:=by rw[hE]; simp only[ruU,entryE,Nat.reduceLT,Nat.reduceAdd,Nat.reduceMul,Nat.reduceEqDiff]
 clear hE
 ·refine w_loop (fun (q:Nat × List Ce × Value × Value × List Op × Lk) E' Y=>E' 0=.pointer (some ⟨p,0,none⟩)∧E' 3=q.2.2.1∧WrAt N F Y p q.2.2.2.1 q.2.2.2.2.1 q.2.2.2.2.2∧KpN N F H Y∧RowS Y q.2.2.1 q.2.1∧(∀ n∈idsV q.2.2.1,n<N∨n∈F)∧q.2.1.length≤q.1∧q.2.2.2.2.1++(writeR q.1 q.2.1 q.2.2.2.2.2).1=L∧(writeR q.1 q.2.1 q.2.2.2.2.2).2=K∧q.2.2.2.2.1.length+2*q.2.1.length≤80001∧q.2.1.length≤10000∧(∀ c∈q.2.1,c.rune≠-1→isR c.rune=true)) (fun q=>q.1) (cs.length,cs,u,v1,l++[opM row i],k)
   ⟨g0,g3,a1,kp1,hr.kp kp1 hi,hi,zA4 _,by rw[←hL]; simp,hK,by simp only[zB7,List.length_singleton]; omega,hcs,hc⟩ ?_
  clear g0 g3 hL hK a a1 kp1 hr hi hl hcs hc E
  clear v1 v u l k cs
  rintro⟨f,cs,u,v,l,k⟩ E X ⟨g0,g3,a,kp,hr,hi,hf,hL,hK,hl,hcs,hc⟩
  simp only at g3 a hr hi hf hL hK hl hcs hc
  obtain⟨x,hx⟩:∃ x,X.next=x:=⟨_,rfl⟩
  have okX:=kp.ok hok
  have hxb:X.base≤x:=hx▸okX
  have hNx:N≤x:=by have:=kp.next; omega
  obtain⟨as1,c1,e1⟩:=hr.sl
  have g3':=g3
  rw[e1]at g3'
  rw[show X=ext X [] from rfl]
  by_cases hne:cs=[]
  ·have hc0:decide ((0:Int)<((cs.length:Nat):Int))=false:=by rw[hne]; decide
   rw[hne,writeR_nil]at hL hK
   simp (maxDischargeDepth:=6) only[g0,g3',hc0,Tryd.results56,xD,ruW,putL,Nat.reduceLeDiff,xF,ruU,entryE,Nat.reduceLT,Nat.reduceAdd,Nat.reduceMul,Nat.reduceEqDiff]
   exact⟨trivial,v,by rw[←hL,←hK]; simp only[zC8]; exact a,kp⟩
  obtain⟨c,cs',hcc⟩:=List.exists_cons_of_ne_nil hne
  have hpos:0<cs.length:=List.length_pos_iff.2 hne
  obtain⟨f',rfl⟩:∃ f',f=f'+1:=⟨f-1,by omega⟩
  have hcs0:cs[0]?=some c:=by rw[hcc]; rfl
  have hd0:decide ((0:Int)<((cs.length:Nat):Int))=true:=decide_eq_true (by omega)
  obtain⟨n,hn⟩:∃ n,spanR c.look cs=n:=⟨_,rfl⟩
  have hnl:n≤cs.length:=hn▸spanR_le c.look cs
  have hn1:1≤n:=by rw[←hn,hcc]; exact spanR_pos c cs'
  have hw:writeR (f'+1) cs k=((if c.look=k then [] else [opL c.look])++opT (strR (runesR (cs.take n)))::(writeR f' (cs.drop n) c.look).1,(writeR f' (cs.drop n) c.look).2):=by
   rw[←hn,hcc]; rfl
  rw[hw]at hL hK
  clear hw
  simp only at hL hK
  rcases id hr.at_ with⟨h,_⟩|⟨_,n1,o1,s1,x1,t1,p1,L1,ev1,b1,n1l,le1,tk1⟩
  ·exact absurd h hne
  have i1:=row_ia (n:=n1) (off:=o1) (s:=s1) (cap:=x1) (len:=cs.length) (i:=((0:Nat):Int)) rfl hpos
  have q1:=look_load (e:=t1) (o:=p1) hcs0 le1 tk1
  rw[zE8]at i1 q1
  rw[zD8,show ((0:Nat):Int)=0 from rfl]at i1
  rw[zB6]at q1
  rw[hx]at n1l
  have g3'':=g3
  rw[ev1]at g3''
  simp (maxDischargeDepth:=6) only[g0,g3'',hx,hxb,hd0,i1,b1,n1l,q1,qk_old,Lk.val,xD,ruW,putL,Nat.reduceLeDiff,xF,ruU,entryE,Nat.reduceLT,Nat.reduceAdd,Nat.reduceMul,Nat.reduceEqDiff]
  generalize hY:ext X _=Y
  have mY:Mod [] X Y:=hY▸Mod.ext okX
  have nY:Y.next=x+1:=by rw[←hY,ext_next,hx]; rfl
  have kY:bk Y (x+0)=some ⟨45,false,c.look.cells⟩:=by rw[←hY,bk_at hx (by simp)]; rfl
  have okY:=mY.ok okX
  have aY:=a.more (q:=x+0) mY (by omega) (by omega)
  have hrY:=hr.mod0 mY
  rw[show Y=ext Y [] from rfl]
  rw[←ev1]
  refine (index79_c (ext Y []) u cs c.look (x+0) hrY.at_ (by omega) kY).to ?_
  obtain⟨d,hd⟩:∃ d,decide (ixR c.look cs<0)=d:=⟨_,rfl⟩
  simp (maxDischargeDepth:=6) only[g0,g3'',nY,hd,xD,ruW,putL,Nat.reduceLeDiff,xF,ruU,entryE,Nat.reduceLT,Nat.reduceAdd,Nat.reduceMul,Nat.reduceEqDiff]
  refine condC_meet (fun E' Z=>Z=ext Y []∧E' 0=.pointer (some ⟨p,0,none⟩)∧E' 3=u∧E' 8=.pointer (some ⟨x+0,0,none⟩)∧E' 9=.int .i64 (n:Int)) ?_ ?_
  ·rw[ixR,hn]at hd
   cases d with
   |true =>
    have hd':=of_decide_eq_true hd
    split at hd'
    ·omega
    have hnn:n=cs.length:=by omega
    simp (maxDischargeDepth:=6) only[g0,g3'',xD,ruW,putL,Nat.reduceLeDiff,xF,ruU,entryE,Nat.reduceLT,Nat.reduceAdd,Nat.reduceMul,Nat.reduceEqDiff]
    exact joinR_normal ⟨rfl,by simp only[g0,ruU,entryE,Nat.reduceLT,Nat.reduceAdd,Nat.reduceMul,Nat.reduceEqDiff],by simp only[g3,ruU,entryE,Nat.reduceLT,Nat.reduceAdd,Nat.reduceMul,Nat.reduceEqDiff],by simp only[ruU,entryE,Nat.reduceLT,Nat.reduceAdd,Nat.reduceMul,Nat.reduceEqDiff],by simp only[hnn,ruU,entryE,Nat.reduceLT,Nat.reduceAdd,Nat.reduceMul,Nat.reduceEqDiff]⟩
   |false =>
    have hd':=of_decide_eq_false hd
    split at hd'
    case isFalse=>omega
    rename_i hlt
    simp (maxDischargeDepth:=6) only[g0,g3'',xD,ruW,putL,Nat.reduceLeDiff,xF,ruU,entryE,Nat.reduceLT,Nat.reduceAdd,Nat.reduceMul,Nat.reduceEqDiff]
    exact joinR_normal ⟨rfl,by simp only[g0,ruU,entryE,Nat.reduceLT,Nat.reduceAdd,Nat.reduceMul,Nat.reduceEqDiff],by simp only[g3,ruU,entryE,Nat.reduceLT,Nat.reduceAdd,Nat.reduceMul,Nat.reduceEqDiff],by simp only[ruU,entryE,Nat.reduceLT,Nat.reduceAdd,Nat.reduceMul,Nat.reduceEqDiff],by simp only[ixR,hn,if_pos hlt,ruU,entryE,Nat.reduceLT,Nat.reduceAdd,Nat.reduceMul,Nat.reduceEqDiff]⟩
  clear g0 g3 g3' g3'' hd d E
  rintro E Z ⟨hZ,g0,g3,g8,g9⟩
  rw[hZ]
  clear hZ Z
  obtain⟨d,hd⟩:∃ d,decide (c.look=k)=d:=⟨_,rfl⟩
  have kp0:=aY.cell
  have hpY:=aY.lt
  rw[nY]at hpY
  have hxY:x+0<x+1:=by omega
  simp (maxDischargeDepth:=6) only[g0,g3,g8,g9,nY,xD,ruW,putL,Nat.reduceLeDiff,xF,ruU,entryE,Nat.reduceLT,Nat.reduceAdd,Nat.reduceMul,Nat.reduceEqDiff]
  refine w_drawB [] [] (by kernel_rfl) rfl rfl fun ops anc hA hG=>?_
  simp only[Lk.cells]at kY
  simp (maxDischargeDepth:=6) only[g0,g3,g8,g9,nY,kY,kp0,hpY,hxY,xD,ruD,ruW,putL,Nat.reduceLeDiff,xF,ruU,entryE,Nat.reduceLT,Nat.reduceAdd,Nat.reduceMul,Nat.reduceEqDiff]
  refine wd_eqS (ts:=[3,3,4,4,4]) (xs:=c.look.cells) (ys:=k.cells) (r:=!decide (c.look=k)) fl45 ag45 gd45 (by rw[lk_eqL]; rfl) (by simp only[ruU,entryE,Nat.reduceLT,Nat.reduceAdd,Nat.reduceMul,Nat.reduceEqDiff]) (by simp only[ruU,entryE,Nat.reduceLT,Nat.reduceAdd,Nat.reduceMul,Nat.reduceEqDiff]) (by decide) (by simp only[ruU,entryE,Nat.reduceLT,Nat.reduceAdd,Nat.reduceMul,Nat.reduceEqDiff]; rfl) (by simp only[ruU,entryE,Nat.reduceLT,Nat.reduceAdd,Nat.reduceMul,Nat.reduceEqDiff]; rfl) (lk_fits _) (lk_fits _) ?_
  simp (maxDischargeDepth:=6) only[hd,xD,ruD,ruW,putL,Nat.reduceLeDiff,xF,ruU,entryE,Nat.reduceLT,Nat.reduceAdd,Nat.reduceMul,Nat.reduceEqDiff]
  refine condC_meet (fun E' Z=>E' 0=.pointer (some ⟨p,0,none⟩)∧E' 3=u∧E' 9=.int .i64 (n:Int)∧∃ v2,WrAt N F Z p v2 (l++if c.look=k then [] else [opL c.look]) c.look∧KpN N F Y Z) ?_ ?_
  ·cases d with
   |false =>
    have hne2:=of_decide_eq_false hd
    simp (maxDischargeDepth:=6) only[g0,g3,g8,nY,kY,hxY,zE1,xD,ruW,putL,Nat.reduceLeDiff,xF,ruU,entryE,Nat.reduceLT,Nat.reduceAdd,Nat.reduceMul,Nat.reduceEqDiff]
    refine (put_c N ((x+0)::F) (ext Y []) p v l k (opL c.look) aY okY (by omega) (by rw[ext_next]; omega)).mono ?_
    rintro _ Z ⟨rfl,v2,a2,kp2⟩
    replace kp2:KpN N ((x+0)::F) Y Z:=kp2
    have kZ:=(bk_get (kp2.get (n:=x+0) (by omega) (.inr (by simp)))).trans kY
    obtain⟨z,hz⟩:∃ z,Z.next=z:=⟨_,rfl⟩
    have hyz:=kp2.next
    have hxz:x+0<z:=by omega
    have hpz:p<z:=by omega
    have kZp:=a2.cell
    rw[show Z=ext Z [] from rfl]
    simp (maxDischargeDepth:=6) only[g0,g3,g8,hz,kZ,kZp,hxz,hpz,xD,ruW,putL,Nat.reduceLeDiff,xF,ruU,entryE,Nat.reduceLT,Nat.reduceAdd,Nat.reduceMul,Nat.reduceEqDiff]
    generalize hU:uw Z p 1 _=U
    have mU:Mod [p] Z U:=hU▸Mod.uw (by simp)
    have hU2:bk U p=some ⟨64,false,[v2,.int .i64 c.look.fore,.int .i64 c.look.back,.bool c.look.bold,.bool c.look.under,.bool c.look.inv]⟩:=by rw[←hU,bk_uw_eq,kZp]; rfl
    refine joinR_normal ⟨by simp only[g0,ruU,entryE,Nat.reduceLT,Nat.reduceAdd,Nat.reduceMul,Nat.reduceEqDiff],by simp only[g3,ruU,entryE,Nat.reduceLT,Nat.reduceAdd,Nat.reduceMul,Nat.reduceEqDiff],by simp only[g9,ruU,entryE,Nat.reduceLT,Nat.reduceAdd,Nat.reduceMul,Nat.reduceEqDiff],v2,?_,?_⟩
    ·rw[if_neg hne2]
     exact (a2.pen mU hU2).weak
    ·exact (kp2.trans (KpN.ofp a2 mU)).weak
   |true =>
    have he:=of_decide_eq_true hd
    simp (maxDischargeDepth:=6) only[g0,g3,zD3,xD,ruW,putL,Nat.reduceLeDiff,xF,ruU,entryE,Nat.reduceLT,Nat.reduceAdd,Nat.reduceMul,Nat.reduceEqDiff]
    refine joinR_normal ⟨by simp only[g0,ruU,entryE,Nat.reduceLT,Nat.reduceAdd,Nat.reduceMul,Nat.reduceEqDiff],by simp only[g3,ruU,entryE,Nat.reduceLT,Nat.reduceAdd,Nat.reduceMul,Nat.reduceEqDiff],by simp only[g9,ruU,entryE,Nat.reduceLT,Nat.reduceAdd,Nat.reduceMul,Nat.reduceEqDiff],v,?_,KpN.refl⟩
    rw[if_pos he,zC8,he]
    exact aY.weak
  clear g0 g3 g8 g9 hd d E hA hG ops anc
  rintro E Z ⟨g0,g3,g9,v2,a2,kp2⟩
  have okZ:=kp2.ok okY
  have hrZ:=hrY.kp kp2 hi
  obtain⟨u2,sl2,r2,-,-⟩:=hrZ.slice hne (x:=none) (y:=some (.int .i64 (n:Int))) (lo:=0) (hi:=n) rfl (by simp[bound]) (zB2 _) hnl
  rw[zD6]at r2
  have hTl:(cs.take n).length=n:=by rw[zD9]; omega
  obtain⟨a2',c2,e2⟩:=r2.sl
  rw[hTl]at e2
  have hTc:∀ c∈cs.take n,c.rune≠-1→isR c.rune=true:=fun c h=>hc c (zE5 h)
  obtain⟨T,hT⟩:∃ T,cs.take n=T:=⟨_,rfl⟩
  rw[hT]at r2 hTl hTc hL
  obtain⟨z,hz⟩:∃ z,Z.next=z:=⟨_,rfl⟩
  have hyz:=kp2.next
  have hsl:=sl2 (ext Z []) (fun _ _=>rfl)
  rw[e2]at hsl
  rw[show Z=ext Z [] from rfl]
  simp (maxDischargeDepth:=6) only[g0,g3,g9,hsl,xD,ruW,putL,Nat.reduceLeDiff,xF,ruU,entryE,Nat.reduceLT,Nat.reduceAdd,Nat.reduceMul,Nat.reduceEqDiff]
  rw[←e2]
  refine w_env fun E' hE=>?_
  have r0:E' 0=.pointer (some ⟨p,0,none⟩):=by rw[hE]; simp only[g0,ruU,entryE,Nat.reduceLT,Nat.reduceAdd,Nat.reduceMul,Nat.reduceEqDiff]
  have r3:E' 3=u:=by rw[hE]; simp only[g3,ruU,entryE,Nat.reduceLT,Nat.reduceAdd,Nat.reduceMul,Nat.reduceEqDiff]
  have r9:E' 9=.int .i64 (n:Int):=by rw[hE]; simp only[g9,ruU,entryE,Nat.reduceLT,Nat.reduceAdd,Nat.reduceMul,Nat.reduceEqDiff]
  have r10:E' 10=.slice none 0 0:=by rw[hE]; simp only[ruU,entryE,Nat.reduceLT,Nat.reduceAdd,Nat.reduceMul,Nat.reduceEqDiff]
  have r50:E' 50=u2:=by rw[hE]; simp only[ruU,entryE,Nat.reduceLT,Nat.reduceAdd,Nat.reduceMul,Nat.reduceEqDiff]
  have r51:E' 51=.int .i64 (n:Int):=by rw[hE]; simp only[ruU,entryE,Nat.reduceLT,Nat.reduceAdd,Nat.reduceMul,Nat.reduceEqDiff]
  have r52:E' 52=.int .i64 ((0:Nat):Int):=by rw[hE]; (simp only[ruU,entryE,Nat.reduceLT,Nat.reduceAdd,Nat.reduceMul,Nat.reduceEqDiff]<;>rfl)
  clear hE g0 g3 g9 E
  refine blockC_meet (fun E' W=>E' 0=.pointer (some ⟨p,0,none⟩)∧E' 3=u∧E' 9=.int .i64 (n:Int)∧∃ t,E' 10=t∧Mod [] Z W∧VsAt W 3 1 t (iv (runesR T)) (runesR T).length) ?_ ?_
  ·refine w_loop (fun (q:Nat × Value) E' W=>E' 0=.pointer (some ⟨p,0,none⟩)∧E' 3=u∧E' 9=.int .i64 (n:Int)∧E' 10=q.2∧E' 50=u2∧E' 51=.int .i64 (n:Int)∧E' 52=.int .i64 (q.1:Int)∧q.1≤n∧Mod [] Z W∧VsAt W 3 1 q.2 (iv (runesR (T.take q.1))) (runesR (T.take q.1)).length∧∀ m∈idsV q.2,z≤m) (fun q=>n-q.1) (0,.slice none 0 0)
    ⟨r0,r3,r9,r10,r50,r51,r52,zB2 _,Mod.refl,VsAt.nil,fun m hm=>by simp[idsV]at hm⟩ ?_
   clear r0 r3 r9 r10 r50 r51 r52
   rintro⟨j,t⟩ E W ⟨g0,g3,g9,g10,g50,g51,g52,hj,mW,ht,hid⟩
   simp only at g10 g52 hj ht hid
   obtain⟨w,hw⟩:∃ w,W.next=w:=⟨_,rfl⟩
   have okW:=mW.ok okZ
   have hwb:W.base≤w:=hw▸okW
   have hzw:=mW.next
   rw[show W=ext W [] from rfl]
   by_cases hjn:j=n
   ·have hc0:decide ((j:Int)<(n:Int))=false:=by simp[hjn]
    rw[hjn,zF1 (by omega)]at ht
    simp (maxDischargeDepth:=6) only[g0,g3,g9,g10,g50,g51,g52,hc0,xD,ruW,putL,Nat.reduceLeDiff,xF,ruU,entryE,Nat.reduceLT,Nat.reduceAdd,Nat.reduceMul,Nat.reduceEqDiff]
    exact joinR_normal ⟨by simp only[g0,ruU,entryE,Nat.reduceLT,Nat.reduceAdd,Nat.reduceMul,Nat.reduceEqDiff],by simp only[g3,ruU,entryE,Nat.reduceLT,Nat.reduceAdd,Nat.reduceMul,Nat.reduceEqDiff],by simp only[g9,ruU,entryE,Nat.reduceLT,Nat.reduceAdd,Nat.reduceMul,Nat.reduceEqDiff],t,by simp only[g10,ruU,entryE,Nat.reduceLT,Nat.reduceAdd,Nat.reduceMul,Nat.reduceEqDiff],mW,ht⟩
   have hc0:decide ((j:Int)<(n:Int))=true:=decide_eq_true (by omega)
   obtain⟨cj,hcj⟩:∃ r,T[j]?=some r:=⟨_,zA6 (by omega)⟩
   rcases id (r2.mod0 mW).at_ with⟨h,_⟩|⟨_,n2,o2,s2,x2,t2,p2,L2,ev2,b2,n2l,le2,tk2⟩
   ·rw[h]at hTl; simp at hTl; omega
   have i2:=row_ia (n:=n2) (off:=o2) (s:=s2) (cap:=x2) (len:=T.length) (i:=(j:Int)) rfl (by omega)
   have q2:=row_load (e:=t2) (o:=p2) hcj le2 tk2
   rw[hw]at n2l
   have g50':=g50
   rw[ev2]at g50'
   have htl:=runesR_take hcj
   have hrl:=zD1 (runesR_len (T.take j)) (List.length_take_le j T)
   obtain⟨d,hd⟩:∃ d,decide (¬cj.rune=-1)=d:=⟨_,rfl⟩
   simp (maxDischargeDepth:=6) only[g0,g3,g9,g10,g50',g51,g52,hw,hwb,hc0,i2,b2,n2l,q2,qk_old,Ce.val,hd,xD,ruW,putL,Nat.reduceLeDiff,xF,ruU,entryE,Nat.reduceLT,Nat.reduceAdd,Nat.reduceMul,Nat.reduceEqDiff]
   generalize hV:ext W _=V
   have mV:Mod [] W V:=hV▸Mod.ext okW
   have nV:V.next=w+1:=by rw[←hV,ext_next,hw]; rfl
   have kV:bk V (w+0)=some ⟨55,false,cj.cells⟩:=by rw[←hV,bk_at hw (by simp)]; rfl
   have okV:=mV.ok okW
   have hVb:V.base≤w+1:=nV▸okV
   rw[show V=ext V [] from rfl]
   have htV:VsAt V 3 1 t (iv (runesR (T.take j))) (runesR (T.take j)).length:=ht.of mV.next fun m hm=>mV.get m (ht.ne m hm).2 (by simp)
   cases d with
   |false =>
    have he:cj.rune=-1:=by simpa using of_decide_eq_false hd
    rw[if_pos he,zC8]at htl
    simp (maxDischargeDepth:=6) only[g0,g3,g9,g10,g50,g51,g52,wrap_succ (show j<1000000 by omega),xD,ruW,putL,Nat.reduceLeDiff,xF,ruU,entryE,Nat.reduceLT,Nat.reduceAdd,Nat.reduceMul,Nat.reduceEqDiff]
    refine loopC_next ⟨(j+1,t),by simp only; omega,by simp only[g0,ruU,entryE,Nat.reduceLT,Nat.reduceAdd,Nat.reduceMul,Nat.reduceEqDiff],by simp only[g3,ruU,entryE,Nat.reduceLT,Nat.reduceAdd,Nat.reduceMul,Nat.reduceEqDiff],by simp only[g9,ruU,entryE,Nat.reduceLT,Nat.reduceAdd,Nat.reduceMul,Nat.reduceEqDiff],by simp only[g10,ruU,entryE,Nat.reduceLT,Nat.reduceAdd,Nat.reduceMul,Nat.reduceEqDiff],by simp only[g50,ruU,entryE,Nat.reduceLT,Nat.reduceAdd,Nat.reduceMul,Nat.reduceEqDiff],by simp only[g51,ruU,entryE,Nat.reduceLT,Nat.reduceAdd,Nat.reduceMul,Nat.reduceEqDiff],by simp only[ruU,entryE,Nat.reduceLT,Nat.reduceAdd,Nat.reduceMul,Nat.reduceEqDiff],by simp only; omega,mW.trans mV,?_,hid⟩
    simp only[htl]
    exact htV
   |true =>
    have he:¬cj.rune=-1:=of_decide_eq_true hd
    rw[if_neg he]at htl
    obtain⟨G,k1,k2,k3,k4⟩:=int_app (c:=cj.rune) htV nV okV (by omega)
    have hwV:w+0<w+1:=by omega
    simp only[Ce.cells]at kV
    simp (maxDischargeDepth:=6) only[g0,g3,g9,g10,g50,g51,g52,nV,hVb,kV,hwV,k1,wrap_succ (show j<1000000 by omega),xD,ruW,putL,Nat.reduceLeDiff,xF,ruU,entryE,Nat.reduceLT,Nat.reduceAdd,Nat.reduceMul,Nat.reduceEqDiff]
    refine loopC_next ⟨(j+1,.slice (some ⟨w+1+1,0,none⟩) ((runesR (T.take j)).length+1) ((runesR (T.take j)).length+1)),by simp only; omega,by simp only[g0,ruU,entryE,Nat.reduceLT,Nat.reduceAdd,Nat.reduceMul,Nat.reduceEqDiff],by simp only[g3,ruU,entryE,Nat.reduceLT,Nat.reduceAdd,Nat.reduceMul,Nat.reduceEqDiff],by simp only[g9,ruU,entryE,Nat.reduceLT,Nat.reduceAdd,Nat.reduceMul,Nat.reduceEqDiff],by simp only[ruU,entryE,Nat.reduceLT,Nat.reduceAdd,Nat.reduceMul,Nat.reduceEqDiff],by simp only[g50,ruU,entryE,Nat.reduceLT,Nat.reduceAdd,Nat.reduceMul,Nat.reduceEqDiff],by simp only[g51,ruU,entryE,Nat.reduceLT,Nat.reduceAdd,Nat.reduceMul,Nat.reduceEqDiff],by simp only[ruU,entryE,Nat.reduceLT,Nat.reduceAdd,Nat.reduceMul,Nat.reduceEqDiff],by simp only; omega,?_,?_,?_⟩
    ·exact (mW.trans mV).step k3 okZ fun m hm=>.inr (by rw[hz]; exact hid m hm)
    ·simp only[htl]
     exact k2
    ·intro m hm
     simp only[idsV,zA8]at hm
     omega
  clear r0 r3 r9 r10 r50 r51 r52 E'
  rintro E W ⟨g0,g3,g9,t,g10,mW,ht⟩
  have hall:∀ c∈runesR T,isR c=true:=fun c h=>by
   simp only[runesR,List.mem_filter,List.mem_map,decide_eq_true_eq]at h
   obtain⟨⟨e,h1,rfl⟩,h2⟩:=h
   exact hTc e h1 h2
  have hrl:=runesR_len T
  have okW:=mW.ok okZ
  have hzw:=mW.next
  have a3:=a2.of mW
  rw[show W=ext W [] from rfl]
  simp (maxDischargeDepth:=6) only[g0,g3,g9,g10,xD,ruW,putL,Nat.reduceLeDiff,xF,ruU,entryE,Nat.reduceLT,Nat.reduceAdd,Nat.reduceMul,Nat.reduceEqDiff]
  refine (ptext_c (ext W []) t (runesR T) ht (by omega) hall).to ?_
  simp (maxDischargeDepth:=6) only[g0,g3,g9,xD,ruW,putL,Nat.reduceLeDiff,xF,ruU,entryE,Nat.reduceLT,Nat.reduceAdd,Nat.reduceMul,Nat.reduceEqDiff]
  have hl3:(l++if c.look=k then [] else [opL c.look]).length≤l.length+1:=by
   rw[zB7]
   split<;>simp
  refine (put_c N F (ext W []) p v2 _ c.look (opT (strR (runesR T))) a3 okW (by omega) (by rw[ext_next]; simp only[zC3]; omega)).mono ?_
  rintro _ X5 ⟨rfl,v5,a5,kp5⟩
  replace kp5:KpN N F W X5:=kp5
  have hr5:=(hrZ.mod0 mW).kp kp5 hi
  obtain⟨u5,sl5,r5,id5,-⟩:=hr5.slice hne (x:=some (.int .i64 (n:Int))) (y:=none) (lo:=n) (hi:=cs.length) (by simp[bound]) rfl hnl (zA4 _)
  rw[zF6]at r5
  have hsl5:=sl5 (ext X5 []) (fun _ _=>rfl)
  rw[show X5=ext X5 [] from rfl]
  simp (maxDischargeDepth:=6) only[g0,g3,g9,hsl5,xD,ruW,putL,Nat.reduceLeDiff,xF,ruU,entryE,Nat.reduceLT,Nat.reduceAdd,Nat.reduceMul,Nat.reduceEqDiff]
  refine loopC_next ⟨(f',cs.drop n,u5,v5,_,c.look),zC7 _,by simp only[g0,ruU,entryE,Nat.reduceLT,Nat.reduceAdd,Nat.reduceMul,Nat.reduceEqDiff],by simp only[ruU,entryE,Nat.reduceLT,Nat.reduceAdd,Nat.reduceMul,Nat.reduceEqDiff],a5,?_,r5,fun m hm=>hi m (id5 m hm),?_,?_,hK,?_,?_,fun e he=>hc e (zE6 he)⟩
  ·exact (((kp.trans (KpN.of0 mY)).trans kp2).trans (KpN.of0 mW)).trans kp5
  ·simp only[zC5]; omega
  ·rw[←hL]; simp
  ·simp only[zB7,List.length_singleton,zC5]at hl3 ⊢
   omega
  ·simp only[zC5]; omega
theorem skipR_ne (a b:List Ce):∀ f i,skipR a b i f<i+f→a[skipR a b i f]?≠b[skipR a b i f]?
 |0,i,h=>by rw[skipR]at h; omega
 |f+1,i,h=>by
  rw[skipR]at h ⊢
  by_cases hc:a[i]?=b[i]?
  ·rw[if_pos hc]at h ⊢
   exact skipR_ne a b f (i+1) (by omega)
  ·rw[if_neg hc]at h ⊢
   exact hc
theorem pieces55_c (H:AHeap) (ua ub:Value) (e:Nat) (hok:H.base≤H.next) (hsa:scb H.next ua=true) (hsb:scb H.next ub=true) (ha:one ua=true) (hb:one ub=true) :
  CallA Tryd.prog 55 [ua,ub,.int .i64 (e:Int)] H (fun out X=>out=.ok (.func (.func 78) ⟨[]⟩ ⟨[.pointer (some ⟨H.next+2,0,none⟩),.pointer (some ⟨H.next+0,0,none⟩),.pointer (some ⟨H.next+1,0,none⟩)]⟩)∧X=ext H [⟨56,false,[ua]⟩,⟨56,false,[ub]⟩,⟨3,false,[.int .i64 (e:Int)]⟩]):=by
 obtain⟨x,hx⟩:∃ x,H.next=x:=⟨_,rfl⟩
 have hxb:H.base≤x:=hx▸hok
 rw[hx]at hsa hsb ⊢
 refine callE_fn mixed Tryd.func55 rfl Tryd.ntmps55 (zA9 rfl) ?_
 simp (maxDischargeDepth:=6) only[hx,hxb,hsa,hsb,cells_sg ha,cells_sg hb,Tryd.results55,xD,ruW,putL,Nat.reduceLeDiff,xF,ruU,entryE,Nat.reduceLT,Nat.reduceAdd,Nat.reduceMul,Nat.reduceEqDiff]
 exact⟨trivial,trivial⟩
section
variable {y pe po pn e : Nat} {ua ub : Value} {a b : List Ce}
structure Rd78 (G:AHeap) (pe po pn e:Nat) (ua ub:Value) (a b:List Ce):Prop where
 ok:G.base≤G.next
 be:bk G pe=some ⟨3,false,[.int .i64 (e:Int)]⟩
 bo:bk G po=some ⟨56,false,[ua]⟩
 bn:bk G pn=some ⟨56,false,[ub]⟩
 le:pe<G.next
 lo:po<G.next
 ln:pn<G.next
 ra:RowAt G ua a
 rb:RowAt G ub b
theorem pieces78_c (H:AHeap) (I:Nat→AHeap→Prop) (hI:I 0 H) (hea:e≤a.length) (heb:e≤b.length) (hl:b.length<100000)
  (rd:∀ i G,I i G→Rd78 G pe po pn e ua ub a b)
  (step:∀ i G,I i G→(pieceR a b i e).1<(pieceR a b i e).2→CallY Tryd.prog y [.int .i64 ((pieceR a b i e).1:Int),.int .i64 ((pieceR a b i e).2:Int)] G (fun out G'=>out=.ok (.bool true)∧I (pieceR a b i e).2 G')) :
  CallA Tryd.prog 78 [.func (.yield y) ⟨[]⟩ ⟨[]⟩,.pointer (some ⟨pe,0,none⟩),.pointer (some ⟨po,0,none⟩),.pointer (some ⟨pn,0,none⟩)] H (fun out X=>out=.ok (.tuple #[])∧∃ i,I i X∧¬(pieceR a b i e).1<(pieceR a b i e).2):=by
 refine callE_fn mixed Tryd.func78 rfl Tryd.ntmps78 (zA9 rfl) ?_
 simp (maxDischargeDepth:=6) only[xD,ruW,putL,Nat.reduceLeDiff,xF,ruU,entryE,Nat.reduceLT,Nat.reduceAdd,Nat.reduceMul,Nat.reduceEqDiff]
 refine w_env fun E hE=>?_
 have g0:E 0=.func (.yield y) ⟨[]⟩ ⟨[]⟩:=by rw[hE]; simp only[ruU,entryE,Nat.reduceLT,Nat.reduceAdd,Nat.reduceMul,Nat.reduceEqDiff]
 have g1:E 1=.pointer (some ⟨pe,0,none⟩):=by rw[hE]; simp only[ruU,entryE,Nat.reduceLT,Nat.reduceAdd,Nat.reduceMul,Nat.reduceEqDiff]
 have g2:E 2=.pointer (some ⟨po,0,none⟩):=by rw[hE]; simp only[ruU,entryE,Nat.reduceLT,Nat.reduceAdd,Nat.reduceMul,Nat.reduceEqDiff]
 have g3:E 3=.pointer (some ⟨pn,0,none⟩):=by rw[hE]; simp only[ruU,entryE,Nat.reduceLT,Nat.reduceAdd,Nat.reduceMul,Nat.reduceEqDiff]
 have g5:E 5=.int .i64 ((0:Nat):Int):=by rw[hE]; (simp only[ruU,entryE,Nat.reduceLT,Nat.reduceAdd,Nat.reduceMul,Nat.reduceEqDiff]<;>rfl)
 clear hE
 refine w_loop (fun (i:Nat) E' G=>I i G∧E' 0=.func (.yield y) ⟨[]⟩ ⟨[]⟩∧E' 1=.pointer (some ⟨pe,0,none⟩)∧E' 2=.pointer (some ⟨po,0,none⟩)∧E' 3=.pointer (some ⟨pn,0,none⟩)∧E' 5=.int .i64 (i:Int)∧i≤e+1) (fun i=>e+2-i) 0
  ⟨hI,g0,g1,g2,g3,g5,zB2 _⟩ ?_
 clear g0 g1 g2 g3 g5 hI E H
 rintro i E H ⟨hI,g0,g1,g2,g3,g5,hie⟩
 obtain⟨hok,be,bo,bn,lpe,lpo,lpn,h0,h1⟩:=rd i H hI
 obtain⟨x,hx⟩:∃ x,H.next=x:=⟨_,rfl⟩
 rw[hx]at lpe lpo lpn
 obtain⟨s,hs⟩:∃ s,skipR a b i (e-i)=s:=⟨_,rfl⟩
 have hsg:=skipR_ge a b (e-i) i
 have hsn:=skipR_ne a b (e-i) i
 rw[hs]at hsg hsn
 obtain⟨t,ht⟩:∃ t,gapR a b s s 0 (e-s)=t:=⟨_,rfl⟩
 have htg:=gapR_le a b (e-s) s s 0 (zA4 _)
 rw[ht]at htg
 have hp:pieceR a b i e=(s,half9 b s t):=by simp only[pieceR,hs,ht]
 have hstep:=step i H hI
 rw[hp]at hstep
 simp only at hstep
 rw[show H=ext H [] from rfl]
 simp (maxDischargeDepth:=6) only[xD,ruW,putL,Nat.reduceLeDiff,xF,ruU,entryE,Nat.reduceLT,Nat.reduceAdd,Nat.reduceMul,Nat.reduceEqDiff]
 refine blockC_meet (fun E' H'=>H'=ext H []∧E' 0=.func (.yield y) ⟨[]⟩ ⟨[]⟩∧E' 1=.pointer (some ⟨pe,0,none⟩)∧E' 2=.pointer (some ⟨po,0,none⟩)∧E' 3=.pointer (some ⟨pn,0,none⟩)∧E' 5=.int .i64 (s:Int)) ?_ ?_
 ·refine w_loop (fun (k:Nat) E' H'=>H'=ext H []∧E' 0=.func (.yield y) ⟨[]⟩ ⟨[]⟩∧E' 1=.pointer (some ⟨pe,0,none⟩)∧E' 2=.pointer (some ⟨po,0,none⟩)∧E' 3=.pointer (some ⟨pn,0,none⟩)∧E' 5=.int .i64 (k:Int)∧k<1000000∧skipR a b k (e-k)=s) (fun k=>e-k) i ⟨rfl,g0,g1,g2,g3,g5,by omega,hs⟩ ?_
  clear g0 g1 g2 g3 g5 hs
  rintro k E H' ⟨hH,g0,g1,g2,g3,g5,hk,hsk⟩
  rw[hH]
  by_cases hke:k<e
  case neg =>
   have hc:decide ((k:Int)<(e:Int))=false:=decide_eq_false (by omega)
   rw[show e-k=0 by omega,skipR]at hsk
   simp (maxDischargeDepth:=6) only[g0,g1,g2,g3,g5,xD,ruW,putL,Nat.reduceLeDiff,xF,ruU,entryE,Nat.reduceLT,Nat.reduceAdd,Nat.reduceMul,Nat.reduceEqDiff]
   refine w_drawB [] [(3,12)] (by kernel_rfl) rfl (by kernel_rfl) fun ops anc hA hG=>?_
   simp only[all2_cons]at hG
   simp (maxDischargeDepth:=6) only[g0,g1,g2,g3,g5,hx,be,lpe,hc,hG,xD,ruD,ruW,putL,Nat.reduceLeDiff,xF,ruU,entryE,Nat.reduceLT,Nat.reduceAdd,Nat.reduceMul,Nat.reduceEqDiff]
   exact joinR_normal ⟨rfl,by simp only[g0,ruU,entryE,Nat.reduceLT,Nat.reduceAdd,Nat.reduceMul,Nat.reduceEqDiff],by simp only[g1,ruU,entryE,Nat.reduceLT,Nat.reduceAdd,Nat.reduceMul,Nat.reduceEqDiff],by simp only[g2,ruU,entryE,Nat.reduceLT,Nat.reduceAdd,Nat.reduceMul,Nat.reduceEqDiff],by simp only[g3,ruU,entryE,Nat.reduceLT,Nat.reduceAdd,Nat.reduceMul,Nat.reduceEqDiff],by simp only[g5,ruU,entryE,Nat.reduceLT,Nat.reduceAdd,Nat.reduceMul,Nat.reduceEqDiff]; rw[hsk]⟩
  have hc:decide ((k:Int)<(e:Int))=true:=decide_eq_true (by omega)
  rw[show e-k=(e-(k+1))+1 by omega,skipR]at hsk
  rcases id h0 with⟨h,_⟩|⟨_,n1,o1,s1,x1,t1,p1,L1,ev0,b1,n1l,le1,tk1⟩
  ·rw[h]at hea; simp at hea; omega
  rcases id h1 with⟨h,_⟩|⟨_,n2,o2,s2,x2,t2,p2,L2,ev1,b2,n2l,le2,tk2⟩
  ·rw[h]at heb; simp at heb; omega
  obtain⟨r1,hr1⟩:∃ r,a[k]?=some r:=⟨_,zA6 (by omega)⟩
  obtain⟨r2,hr2⟩:∃ r,b[k]?=some r:=⟨_,zA6 (by omega)⟩
  have i1:=row_ia (n:=n1) (off:=o1) (s:=s1) (cap:=x1) (len:=a.length) (i:=(k:Int)) rfl (by omega)
  have i2:=row_ia (n:=n2) (off:=o2) (s:=s2) (cap:=x2) (len:=b.length) (i:=(k:Int)) rfl (by omega)
  have q1:=row_load (e:=t1) (o:=p1) hr1 le1 tk1
  have q2:=row_load (e:=t2) (o:=p2) hr2 le2 tk2
  rw[hx]at n1l n2l
  rw[hr1,hr2]at hsk
  have bo':=bo
  have bn':=bn
  rw[ev0]at bo'
  rw[ev1]at bn'
  obtain⟨d,hd⟩:∃ d,decide (r1=r2)=d:=⟨_,rfl⟩
  simp (maxDischargeDepth:=6) only[g0,g1,g2,g3,g5,xD,ruW,putL,Nat.reduceLeDiff,xF,ruU,entryE,Nat.reduceLT,Nat.reduceAdd,Nat.reduceMul,Nat.reduceEqDiff]
  refine w_drawB [] [(3,12)] (by kernel_rfl) rfl (by kernel_rfl) fun ops anc hA hG=>?_
  simp only[all2_cons]at hG
  simp (maxDischargeDepth:=6) only[g0,g1,g2,g3,g5,hx,be,lpe,bo',lpo,bn',lpn,hc,hG,i1,i2,b1,b2,n1l,n2l,q1,q2,qk_old,Ce.val,xD,ruD,ruW,putL,Nat.reduceLeDiff,xF,ruU,entryE,Nat.reduceLT,Nat.reduceAdd,Nat.reduceMul,Nat.reduceEqDiff]
  refine wd_eqS (ts:=[3,3,3,4,4,4]) (xs:=r1.cells) (ys:=r2.cells) (r:=d) fl55 ag55 gd55 (by rw[ce_eqL,hd]; rfl) (by simp only[ruU,entryE,Nat.reduceLT,Nat.reduceAdd,Nat.reduceMul,Nat.reduceEqDiff]) (by simp only[ruU,entryE,Nat.reduceLT,Nat.reduceAdd,Nat.reduceMul,Nat.reduceEqDiff]) (by decide) (by simp only[ruU,entryE,Nat.reduceLT,Nat.reduceAdd,Nat.reduceMul,Nat.reduceEqDiff]; rfl) (by simp only[ruU,entryE,Nat.reduceLT,Nat.reduceAdd,Nat.reduceMul,Nat.reduceEqDiff]; rfl) (ce_fits _) (ce_fits _) ?_
  cases d with
  |true =>
   rw[of_decide_eq_true hd,if_pos rfl]at hsk
   simp (maxDischargeDepth:=6) only[g0,g1,g2,g3,g5,hG,wrap_succ hk,xD,ruD,ruW,putL,Nat.reduceLeDiff,xF,ruU,entryE,Nat.reduceLT,Nat.reduceAdd,Nat.reduceMul,Nat.reduceEqDiff]
   refine loopC_next ⟨k+1,by omega,rfl,?_,?_,?_,?_,?_,by omega,hsk⟩<;>simp only[g0,g1,g2,g3,g5,ruU,entryE,Nat.reduceLT,Nat.reduceAdd,Nat.reduceMul,Nat.reduceEqDiff]
  |false =>
   have hne:=of_decide_eq_false hd
   rw[if_neg (fun e=>hne (Option.some.inj e))]at hsk
   simp (maxDischargeDepth:=6) only[g0,g1,g2,g3,g5,hG,xD,ruD,ruW,putL,Nat.reduceLeDiff,xF,ruU,entryE,Nat.reduceLT,Nat.reduceAdd,Nat.reduceMul,Nat.reduceEqDiff]
   exact joinR_normal ⟨rfl,by simp only[g0,ruU,entryE,Nat.reduceLT,Nat.reduceAdd,Nat.reduceMul,Nat.reduceEqDiff],by simp only[g1,ruU,entryE,Nat.reduceLT,Nat.reduceAdd,Nat.reduceMul,Nat.reduceEqDiff],by simp only[g2,ruU,entryE,Nat.reduceLT,Nat.reduceAdd,Nat.reduceMul,Nat.reduceEqDiff],by simp only[g3,ruU,entryE,Nat.reduceLT,Nat.reduceAdd,Nat.reduceMul,Nat.reduceEqDiff],by simp only[g5,ruU,entryE,Nat.reduceLT,Nat.reduceAdd,Nat.reduceMul,Nat.reduceEqDiff]; rw[hsk]⟩
 clear g0 g1 g2 g3 g5
 rintro E H' ⟨hH,g0,g1,g2,g3,g5⟩
 rw[hH]
 by_cases hse:s<e
 case neg =>
  have hc:decide ((e:Int)≤(s:Int))=true:=decide_eq_true (by omega)
  have hc':decide ((s:Int) ≥ (e:Int))=true:=decide_eq_true (by omega)
  simp (maxDischargeDepth:=6) only[g0,g1,g2,g3,g5,hx,be,lpe,hc,hc',Tryd.results78,xD,ruW,putL,Nat.reduceLeDiff,xF,ruU,entryE,Nat.reduceLT,Nat.reduceAdd,Nat.reduceMul,Nat.reduceEqDiff]
  refine⟨trivial,i,hI,?_⟩
  rw[hp,half9]
  rw[show e-s=0 by omega,gapR]at ht
  subst ht
  rw[if_neg (fun h=>Nat.lt_irrefl _ h.1)]
  exact Nat.lt_irrefl _
 have hc:decide ((e:Int)≤(s:Int))=false:=decide_eq_false (by omega)
 have hc':decide ((s:Int) ≥ (e:Int))=false:=decide_eq_false (by omega)
 have hns:=hsn (by omega)
 rw[show e-s=(e-(s+1))+1 by omega,gapR,if_pos (by omega),if_neg hns]at ht
 have htg2:=gapR_le a b (e-(s+1)) (s+1) (s+1) 0 (zA4 _)
 rw[ht]at htg2
 simp (maxDischargeDepth:=6) only[g0,g1,g2,g3,g5,hx,be,lpe,hc,hc',wrap_succ (show s<1000000 by omega),xD,ruW,putL,Nat.reduceLeDiff,xF,ruU,entryE,Nat.reduceLT,Nat.reduceAdd,Nat.reduceMul,Nat.reduceEqDiff]
 refine w_env fun E' hE=>?_
 have r0:E' 0=.func (.yield y) ⟨[]⟩ ⟨[]⟩:=by rw[hE]; simp only[g0,ruU,entryE,Nat.reduceLT,Nat.reduceAdd,Nat.reduceMul,Nat.reduceEqDiff]
 have r1:E' 1=.pointer (some ⟨pe,0,none⟩):=by rw[hE]; simp only[g1,ruU,entryE,Nat.reduceLT,Nat.reduceAdd,Nat.reduceMul,Nat.reduceEqDiff]
 have r2:E' 2=.pointer (some ⟨po,0,none⟩):=by rw[hE]; simp only[g2,ruU,entryE,Nat.reduceLT,Nat.reduceAdd,Nat.reduceMul,Nat.reduceEqDiff]
 have r3:E' 3=.pointer (some ⟨pn,0,none⟩):=by rw[hE]; simp only[g3,ruU,entryE,Nat.reduceLT,Nat.reduceAdd,Nat.reduceMul,Nat.reduceEqDiff]
 have r5:E' 5=.int .i64 (s:Int):=by rw[hE]; simp only[g5,ruU,entryE,Nat.reduceLT,Nat.reduceAdd,Nat.reduceMul,Nat.reduceEqDiff]
 have r6:E' 6=.int .i64 ((s+1:Nat):Int):=by rw[hE]; simp only[ruU,entryE,Nat.reduceLT,Nat.reduceAdd,Nat.reduceMul,Nat.reduceEqDiff]
 have r7:E' 7=.int .i64 ((0:Nat):Int):=by rw[hE]; (simp only[ruU,entryE,Nat.reduceLT,Nat.reduceAdd,Nat.reduceMul,Nat.reduceEqDiff]<;>rfl)
 have r8:E' 8=.int .i64 ((s+1:Nat):Int):=by rw[hE]; simp only[ruU,entryE,Nat.reduceLT,Nat.reduceAdd,Nat.reduceMul,Nat.reduceEqDiff]
 clear hE g0 g1 g2 g3 g5 E
 refine blockC_meet (fun E' H'=>H'=ext H []∧E' 0=.func (.yield y) ⟨[]⟩ ⟨[]⟩∧E' 1=.pointer (some ⟨pe,0,none⟩)∧E' 2=.pointer (some ⟨po,0,none⟩)∧E' 3=.pointer (some ⟨pn,0,none⟩)∧E' 5=.int .i64 (s:Int)∧E' 6=.int .i64 (t:Int)) ?_ ?_
 ·refine w_loop (fun (q:Nat × Nat × Nat) E' H'=>H'=ext H []∧E' 0=.func (.yield y) ⟨[]⟩ ⟨[]⟩∧E' 1=.pointer (some ⟨pe,0,none⟩)∧E' 2=.pointer (some ⟨po,0,none⟩)∧E' 3=.pointer (some ⟨pn,0,none⟩)∧E' 5=.int .i64 (s:Int)∧E' 8=.int .i64 (q.1:Int)∧E' 6=.int .i64 (q.2.1:Int)∧E' 7=.int .i64 (q.2.2:Int)∧q.1<1000000∧q.2.2≤8∧gapR a b q.1 q.2.1 q.2.2 (e-q.1)=t) (fun q=>e-q.1) (s+1,s+1,0) ⟨rfl,r0,r1,r2,r3,r5,r8,r6,r7,by simp only; omega,by simp,ht⟩ ?_
  clear r0 r1 r2 r3 r5 r6 r7 r8
  rintro⟨k,td,al⟩ E H' ⟨hH,g0,g1,g2,g3,g5,g8,g6,g7,hk,hal,hgk⟩
  simp only at g8 g6 g7 hk hal hgk
  rw[hH]
  by_cases hke:k<e
  case neg =>
   have hc:decide ((k:Int)<(e:Int))=false:=decide_eq_false (by omega)
   rw[show e-k=0 by omega,gapR]at hgk
   simp (maxDischargeDepth:=6) only[g0,g1,g2,g3,g5,g6,g7,g8,hx,be,lpe,hc,xD,ruW,putL,Nat.reduceLeDiff,xF,ruU,entryE,Nat.reduceLT,Nat.reduceAdd,Nat.reduceMul,Nat.reduceEqDiff]
   exact joinR_normal ⟨rfl,by simp only[g0,ruU,entryE,Nat.reduceLT,Nat.reduceAdd,Nat.reduceMul,Nat.reduceEqDiff],by simp only[g1,ruU,entryE,Nat.reduceLT,Nat.reduceAdd,Nat.reduceMul,Nat.reduceEqDiff],by simp only[g2,ruU,entryE,Nat.reduceLT,Nat.reduceAdd,Nat.reduceMul,Nat.reduceEqDiff],by simp only[g3,ruU,entryE,Nat.reduceLT,Nat.reduceAdd,Nat.reduceMul,Nat.reduceEqDiff],by simp only[g5,ruU,entryE,Nat.reduceLT,Nat.reduceAdd,Nat.reduceMul,Nat.reduceEqDiff],by simp only[g6,ruU,entryE,Nat.reduceLT,Nat.reduceAdd,Nat.reduceMul,Nat.reduceEqDiff]; rw[hgk]⟩
  have hc:decide ((k:Int)<(e:Int))=true:=decide_eq_true (by omega)
  rw[show e-k=(e-(k+1))+1 by omega,gapR]at hgk
  by_cases ha8:al<8
  case neg =>
   have hc8:decide ((al:Int)<8)=false:=decide_eq_false (by omega)
   rw[if_neg ha8]at hgk
   simp (maxDischargeDepth:=6) only[g0,g1,g2,g3,g5,g6,g7,g8,hx,be,lpe,hc,hc8,xD,ruW,putL,Nat.reduceLeDiff,xF,ruU,entryE,Nat.reduceLT,Nat.reduceAdd,Nat.reduceMul,Nat.reduceEqDiff]
   exact joinR_normal ⟨rfl,by simp only[g0,ruU,entryE,Nat.reduceLT,Nat.reduceAdd,Nat.reduceMul,Nat.reduceEqDiff],by simp only[g1,ruU,entryE,Nat.reduceLT,Nat.reduceAdd,Nat.reduceMul,Nat.reduceEqDiff],by simp only[g2,ruU,entryE,Nat.reduceLT,Nat.reduceAdd,Nat.reduceMul,Nat.reduceEqDiff],by simp only[g3,ruU,entryE,Nat.reduceLT,Nat.reduceAdd,Nat.reduceMul,Nat.reduceEqDiff],by simp only[g5,ruU,entryE,Nat.reduceLT,Nat.reduceAdd,Nat.reduceMul,Nat.reduceEqDiff],by simp only[g6,ruU,entryE,Nat.reduceLT,Nat.reduceAdd,Nat.reduceMul,Nat.reduceEqDiff]; rw[hgk]⟩
  have hc8:decide ((al:Int)<8)=true:=decide_eq_true (by omega)
  rw[if_pos ha8]at hgk
  rcases id h0 with⟨h,_⟩|⟨_,n1,o1,s1,x1,t1,p1,L1,ev0,b1,n1l,le1,tk1⟩
  ·rw[h]at hea; simp at hea; omega
  rcases id h1 with⟨h,_⟩|⟨_,n2,o2,s2,x2,t2,p2,L2,ev1,b2,n2l,le2,tk2⟩
  ·rw[h]at heb; simp at heb; omega
  obtain⟨r1,hr1⟩:∃ r,a[k]?=some r:=⟨_,zA6 (by omega)⟩
  obtain⟨r2,hr2⟩:∃ r,b[k]?=some r:=⟨_,zA6 (by omega)⟩
  have i1:=row_ia (n:=n1) (off:=o1) (s:=s1) (cap:=x1) (len:=a.length) (i:=(k:Int)) rfl (by omega)
  have i2:=row_ia (n:=n2) (off:=o2) (s:=s2) (cap:=x2) (len:=b.length) (i:=(k:Int)) rfl (by omega)
  have q1:=row_load (e:=t1) (o:=p1) hr1 le1 tk1
  have q2:=row_load (e:=t2) (o:=p2) hr2 le2 tk2
  rw[hx]at n1l n2l
  rw[hr1,hr2]at hgk
  have bo':=bo
  have bn':=bn
  rw[ev0]at bo'
  rw[ev1]at bn'
  obtain⟨d,hd⟩:∃ d,decide (r1=r2)=d:=⟨_,rfl⟩
  simp (maxDischargeDepth:=6) only[g0,g1,g2,g3,g5,g6,g7,g8,hx,be,lpe,hc,hc8,wrap_succ (show al<1000000 by omega),xD,ruW,putL,Nat.reduceLeDiff,xF,ruU,entryE,Nat.reduceLT,Nat.reduceAdd,Nat.reduceMul,Nat.reduceEqDiff]
  refine w_drawB [] [] (by kernel_rfl) rfl rfl fun ops anc hA hG=>?_
  simp (maxDischargeDepth:=6) only[g0,g1,g2,g3,g5,g6,g7,g8,hx,bo',lpo,bn',lpn,i1,i2,b1,b2,n1l,n2l,q1,q2,qk_old,Ce.val,xD,ruD,ruW,putL,Nat.reduceLeDiff,xF,ruU,entryE,Nat.reduceLT,Nat.reduceAdd,Nat.reduceMul,Nat.reduceEqDiff]
  refine wd_eqS (ts:=[3,3,3,4,4,4]) (xs:=r1.cells) (ys:=r2.cells) (r:=!d) fl55 ag55 gd55 (by rw[ce_eqL,hd]; rfl) (by simp only[ruU,entryE,Nat.reduceLT,Nat.reduceAdd,Nat.reduceMul,Nat.reduceEqDiff]) (by simp only[ruU,entryE,Nat.reduceLT,Nat.reduceAdd,Nat.reduceMul,Nat.reduceEqDiff]) (by decide) (by simp only[ruU,entryE,Nat.reduceLT,Nat.reduceAdd,Nat.reduceMul,Nat.reduceEqDiff]; rfl) (by simp only[ruU,entryE,Nat.reduceLT,Nat.reduceAdd,Nat.reduceMul,Nat.reduceEqDiff]; rfl) (ce_fits _) (ce_fits _) ?_
  cases d with
  |true =>
   rw[of_decide_eq_true hd,if_pos rfl]at hgk
   simp (maxDischargeDepth:=6) only[g0,g1,g2,g3,g5,g6,g7,g8,zD3,wrap_succ hk,xD,ruD,ruW,putL,Nat.reduceLeDiff,xF,ruU,entryE,Nat.reduceLT,Nat.reduceAdd,Nat.reduceMul,Nat.reduceEqDiff]
   refine loopC_next ⟨(k+1,td,al+1),by simp only; omega,rfl,?_,?_,?_,?_,?_,?_,?_,?_,by simp only; omega,by simp only; omega,hgk⟩<;>simp only[g0,g1,g2,g3,g5,g6,g7,g8,ruU,entryE,Nat.reduceLT,Nat.reduceAdd,Nat.reduceMul,Nat.reduceEqDiff]
  |false =>
   have hne:=of_decide_eq_false hd
   rw[if_neg (fun e=>hne (Option.some.inj e))]at hgk
   simp (maxDischargeDepth:=6) only[g0,g1,g2,g3,g5,g6,g7,g8,zE1,wrap_succ hk,xD,ruD,ruW,putL,Nat.reduceLeDiff,xF,ruU,entryE,Nat.reduceLT,Nat.reduceAdd,Nat.reduceMul,Nat.reduceEqDiff]
   refine loopC_next ⟨(k+1,k+1,0),by simp only; omega,rfl,?_,?_,?_,?_,?_,?_,?_,?_,by simp only; omega,by simp,hgk⟩<;>(try simp only[g0,g1,g2,g3,g5,g6,g7,g8,ruU,entryE,Nat.reduceLT,Nat.reduceAdd,Nat.reduceMul,Nat.reduceEqDiff])<;>rfl
 clear r0 r1 r2 r3 r5 r6 r7 r8 E'
 rintro E H' ⟨hH,g0,g1,g2,g3,g5,g6⟩
 rw[hH]
 have hst:s<t:=by omega
 have hh2:half9 b s t≤e+1∧s<half9 b s t:=by rw[half9]; split<;>omega
 rw[w_seq]
 refine w_meet (fun E' H'=>H'=ext H []∧E' 0=.func (.yield y) ⟨[]⟩ ⟨[]⟩∧E' 1=.pointer (some ⟨pe,0,none⟩)∧E' 2=.pointer (some ⟨po,0,none⟩)∧E' 3=.pointer (some ⟨pn,0,none⟩)∧E' 5=.int .i64 (s:Int)∧E' 6=.int .i64 (half9 b s t:Int)) ?_ ?_
 ·obtain⟨a1,c1,e1⟩:=h1.sl
  have bns:=bn
  rw[e1]at bns
  by_cases htb:t<b.length
  case neg =>
   have hc2:decide ((t:Int)<(b.length:Int))=false:=decide_eq_false (by omega)
   have hh:half9 b s t=t:=by rw[half9,zE0 (by omega),if_neg (fun c=>by simp at c)]
   simp (maxDischargeDepth:=6) only[g0,g1,g2,g3,g5,g6,hx,bns,lpn,hc2,xD,ruW,putL,Nat.reduceLeDiff,xF,ruU,entryE,Nat.reduceLT,Nat.reduceAdd,Nat.reduceMul,Nat.reduceEqDiff]
   exact joinR_normal ⟨rfl,by simp only[g0,ruU,entryE,Nat.reduceLT,Nat.reduceAdd,Nat.reduceMul,Nat.reduceEqDiff],by simp only[g1,ruU,entryE,Nat.reduceLT,Nat.reduceAdd,Nat.reduceMul,Nat.reduceEqDiff],by simp only[g2,ruU,entryE,Nat.reduceLT,Nat.reduceAdd,Nat.reduceMul,Nat.reduceEqDiff],by simp only[g3,ruU,entryE,Nat.reduceLT,Nat.reduceAdd,Nat.reduceMul,Nat.reduceEqDiff],by simp only[g5,ruU,entryE,Nat.reduceLT,Nat.reduceAdd,Nat.reduceMul,Nat.reduceEqDiff],by simp only[g6,ruU,entryE,Nat.reduceLT,Nat.reduceAdd,Nat.reduceMul,Nat.reduceEqDiff]; rw[hh]⟩
  have hc2:decide ((t:Int)<(b.length:Int))=true:=decide_eq_true (by omega)
  rcases id h1 with⟨h,_⟩|⟨_,n2,o2,s2,x2,t2,p2,L2,ev1,b2,n2l,le2,tk2⟩
  ·rw[h]at htb; simp at htb
  obtain⟨r2,hr2⟩:∃ r,b[t]?=some r:=⟨_,zA6 htb⟩
  have i2:=row_ia (n:=n2) (off:=o2) (s:=s2) (cap:=x2) (len:=b.length) (i:=(t:Int)) rfl htb
  have q2:=run_load (e:=t2) (o:=p2) hr2 le2 tk2
  rw[hx]at n2l
  have bn':=bn
  rw[ev1]at bn'
  obtain⟨d,hd⟩:∃ d,decide (r2.rune=-1)=d:=⟨_,rfl⟩
  have hh:half9 b s t=cond d (t+1) t:=by
   rw[half9,hr2]
   cases d with
   |true=>rw[if_pos ⟨hst,by simp[of_decide_eq_true hd]⟩]; rfl
   |false=>rw[if_neg (fun c=>of_decide_eq_false hd (by simpa using c.2))]; rfl
  rw[hh]
  cases d<;>(simp (maxDischargeDepth:=6) only[g0,g1,g2,g3,g5,g6,hx,bn',lpn,hc2,i2,b2,n2l,q2,qk_old,hd,wrap_succ (show t<1000000 by omega),xD,ruW,putL,Nat.reduceLeDiff,xF,ruU,entryE,Nat.reduceLT,Nat.reduceAdd,Nat.reduceMul,Nat.reduceEqDiff]; exact joinR_normal ⟨rfl,by simp (maxDischargeDepth:=6) only[g0,ruU,entryE,Nat.reduceLT,Nat.reduceAdd,Nat.reduceMul,Nat.reduceEqDiff],by simp (maxDischargeDepth:=6) only[g1,ruU,entryE,Nat.reduceLT,Nat.reduceAdd,Nat.reduceMul,Nat.reduceEqDiff],by simp (maxDischargeDepth:=6) only[g2,ruU,entryE,Nat.reduceLT,Nat.reduceAdd,Nat.reduceMul,Nat.reduceEqDiff],by simp (maxDischargeDepth:=6) only[g3,ruU,entryE,Nat.reduceLT,Nat.reduceAdd,Nat.reduceMul,Nat.reduceEqDiff],by simp (maxDischargeDepth:=6) only[g5,ruU,entryE,Nat.reduceLT,Nat.reduceAdd,Nat.reduceMul,Nat.reduceEqDiff],by simp (maxDischargeDepth:=6) only[g6,cond_true,cond_false,ruU,entryE,Nat.reduceLT,Nat.reduceAdd,Nat.reduceMul,Nat.reduceEqDiff]⟩)
 clear g0 g1 g2 g3 g5 g6 E
 rintro E H' ⟨hH,g0,g1,g2,g3,g5,g6⟩
 rw[hH]
 simp (maxDischargeDepth:=6) only[g0,g1,g2,g3,g5,g6,xD,ruW,putL,Nat.reduceLeDiff,xF,ruU,entryE,Nat.reduceLT,Nat.reduceAdd,Nat.reduceMul,Nat.reduceEqDiff]
 refine w_callY (l:=y) (by simp only[ruU,entryE,Nat.reduceLT,Nat.reduceAdd,Nat.reduceMul,Nat.reduceEqDiff]) (by simp only[g0,ruU,entryE,Nat.reduceLT,Nat.reduceAdd,Nat.reduceMul,Nat.reduceEqDiff]) (by simp only[ruU,entryE,Nat.reduceLT,Nat.reduceAdd,Nat.reduceMul,Nat.reduceEqDiff]) ?_
 simp only[g5,g6,ruU,entryE,Nat.reduceLT,Nat.reduceAdd,Nat.reduceMul,Nat.reduceEqDiff]
 refine (hstep hh2.2).mono ?_
 rintro _ G' ⟨rfl,hI'⟩
 rw[show G'=ext G' [] from rfl]
 simp (maxDischargeDepth:=6) only[g0,g1,g2,g3,g5,g6,zD3,xD,ruW,putL,Nat.reduceLeDiff,xF,ruU,entryE,Nat.reduceLT,Nat.reduceAdd,Nat.reduceMul,Nat.reduceEqDiff]
 refine loopC_next ⟨half9 b s t,by omega,hI',?_,?_,?_,?_,?_,hh2.1⟩<;>simp only[g0,g1,g2,g3,g5,g6,ruU,entryE,Nat.reduceLT,Nat.reduceAdd,Nat.reduceMul,Nat.reduceEqDiff]
end
section
variable {N q p : Nat} {F F' : List Nat} {H X U : AHeap} {v : Value} {l : List Op} {k : Lk}
theorem WrAt.sub (a:WrAt N F H p v l k) (h:∀ n∈F',n∈F):WrAt N F' H p v l k :=
 ⟨a.cell,a.ops,a.apart,a.lt,a.lo,fun e=>a.pF (h p e),fun n hn=>⟨(a.ids n hn).1,fun e=>(a.ids n hn).2 (h n e)⟩,fun n hn=>a.fl n (h n hn)⟩
theorem KpN.sub (m:KpN N F H X) (h:∀ n∈F',n∈F):KpN N F' H X:=let ⟨W,h1,m⟩:=m; ⟨W,fun n hn=>⟨(h1 n hn).1,fun hf=>(h1 n hn).2 (h n hf)⟩,m⟩
theorem WrAt.mores {Q:List Nat} (a:WrAt N F H p v l k) (m:Mod [] H X) (h:∀ q∈Q,H.next≤q∧q<X.next):WrAt N (Q++F) X p v l k:=by
 have a':=a.of m
 refine⟨a'.cell,a'.ops,a'.apart,a'.lt,a'.lo,fun e=>?_,fun n hn=>⟨(a.ids n hn).1,fun e=>?_⟩,fun n hn=>?_⟩
 ·rcases zB5.1 e with e|e
  ·have:=(h p e).1; have:=a.lt; omega
  ·exact a.pF e
 ·rcases zB5.1 e with e|e
  ·have:=(h n e).1; have:=(a.ops.ne n hn).2; omega
  ·exact (a.ids n hn).2 e
 ·rcases zB5.1 hn with e|e
  ·exact (h n e).2
  ·exact a'.fl n e
theorem WrAt.loop (a:WrAt N F H p v l k) (m:Mod [q] H U) (hq:q∈F):WrAt N F U p v l k :=
 ⟨(m.bk a.lt (fun e=>a.pF (by rw[zA8]at e; exact e▸hq))).trans a.cell,a.ops.of m.next fun n hn=>m.get n (a.ops.ne n hn).2 (fun e=>(a.ids n hn).2 (by rw[zA8]at e; exact e▸hq)),a.apart,m.lt a.lt,a.lo,a.pF,a.ids,fun n hn=>m.lt (a.fl n hn)⟩
theorem KpN.one (m:Mod [q] H U) (h1:N≤q) (h2:q∉F):KpN N F H U:=⟨[q],fun n hn=>by rw[zA8]at hn; subst hn; exact⟨h1,h2⟩,m⟩
theorem KpN.bk (m:KpN N F H X) {n:Nat} (hl:n<H.next) (h:n<N∨n∈F):Go.Ax.bk X n=Go.Ax.bk H n:=bk_get (m.get hl h)
end
theorem writeR_len:∀ (f:Nat) (l:List Ce) (p:Lk),(writeR f l p).1.length≤2*l.length
 |0,_,_=>by simp[writeR]
 |_+1,[],_=>by simp[writeR]
 |f+1,c::l,p=>by
  have h1:=writeR_len f ((c::l).drop (spanR c.look (c::l))) c.look
  have h2:=spanR_pos c l
  have h3:=spanR_le c.look (c::l)
  rw[zC5]at h1
  rw[writeR,zB7,zB4]
  split<;>simp only[zC3,List.length_singleton]<;>omega
theorem runsR_len (row i:Nat) (l:List Ce) (p:Lk):(runsR row i l p).1.length≤2*l.length+1:=by
 have:=writeR_len l.length l p
 simp only[runsR,zB4]
 omega
def lpR (asg bod:Code) (d:Nat):Loop:={state:=.ready,pending:=none,fn:=0,tmps:=#[],params:=⟨[30,31]⟩,assign:=asg,body:=bod,defers:=d}
theorem row_step {asg bod:Code} (hab:some (asg,bod)=Tryd.f39.body.bind rangeOf) {N:Nat} {F1:List Nat} {lp d p x0 x1 x2:Nat} {row s t:Nat} {v ub:Value} {l:List Op} {k:Lk} {b:List Ce} {E:Env} {G:AHeap}
  (g4:E 4=.pointer (some ⟨x0,0,none⟩)) (g5:E 5=.pointer (some ⟨x1,0,none⟩)) (g7:E 7=.pointer (some ⟨x2,0,none⟩))
  (hl:LoopAt G lp (lpR asg bod d) (rvOf 56 E)) (a:WrAt N (lp::F1) G p v l k) (hlF:lp∉F1) (hNlp:N≤lp)
  (b0:bk G x0=some ⟨62,false,[.pointer (some ⟨p,0,none⟩)]⟩) (b1:bk G x1=some ⟨3,false,[.int .i64 (row:Int)]⟩) (b2:bk G x2=some ⟨56,false,[ub]⟩) (hx0:x0∈F1) (hx1:x1∈F1) (hx2:x2∈F1)
  (hr:RowS G ub b) (hi:∀ n∈idsV ub,n<N∨n∈F1) (hok:G.base≤G.next) (hN:N≤G.next) (hst:s<t) (htb:t≤b.length) (hll:l.length+2*(t-s)≤80000) (hbl:b.length≤10000) (hc:∀ c∈b,c.rune≠-1→isR c.rune=true) :
  CallY Tryd.prog lp [.int .i64 (s:Int),.int .i64 (t:Int)] G (fun out G'=>out=.ok (.bool true)∧LoopAt G' lp (lpR asg bod d) (rvOf 56 E)∧∃ v',WrAt N (lp::F1) G' p v' (l++(runsR row s ((b.take t).drop s) k).1) (runsR row s ((b.take t).drop s) k).2∧KpN N F1 G G'):=by
 obtain⟨x,hx⟩:∃ x,G.next=x:=⟨_,rfl⟩
 have hlp:=a.fl lp (by simp)
 refine callY_of (H:=ext G []) (N:=56) (E:=E) mixed hl rfl (zip_two (by decide) (by decide)) ?_
 have h2:Tryd.f39.body.bind rangeOf=some (_,_):=rfl
 cases hab.trans h2
 simp (maxDischargeDepth:=6) only[ruW,putL,Nat.reduceLeDiff,xF,ruU,entryE,Nat.reduceLT,Nat.reduceAdd,Nat.reduceMul,Nat.reduceEqDiff]
 rw[asgC_normal]
 refine⟨_,_,(hl.of (ext_get_old hlp)).get,rfl,?_⟩
 rw[ext_setLoop hlp]
 generalize hG1:setLoop G lp _ _=G1
 have mG1:Mod [lp] G G1:=hG1▸Mod.upd (by simp)
 have n1:G1.next=x:=by rw[←hG1,setLoop_next,hx]
 have hl1:LoopAt G1 lp _ (rvOf 56 E):=hG1▸LoopAt.set lp _ _
 have k1:KpN N F1 G G1:=KpN.one mG1 hNlp hlF
 have a1:=a.loop mG1 (by simp)
 have lx0:=a.fl x0 (by simp[hx0])
 have lx1:=a.fl x1 (by simp[hx1])
 have lx2:=a.fl x2 (by simp[hx2])
 have b0':=(k1.bk lx0 (.inr hx0)).trans b0
 have b1':=(k1.bk lx1 (.inr hx1)).trans b1
 have b2':=(k1.bk lx2 (.inr hx2)).trans b2
 have r1:=hr.kp k1 hi
 have ok1:=k1.ok hok
 rw[hx]at lx0 lx1 lx2
 have hne:b≠[]:=fun e=>by rw[e,zC3]at htb; omega
 have hfv:∀ n∈idsV ub,(ext G1 []).get n≠none:=fun n hn=>by
  rcases r1 with⟨h,_⟩|⟨_,h⟩
  ·exact absurd h hne
  ·exact (h.ne n hn).1
 obtain⟨u1,sl1,rs1,id1,sc1⟩:=r1.slice hne (x:=some (.int .i64 (s:Int))) (y:=some (.int .i64 (t:Int))) (lo:=s) (hi:=t) (by simp[bound]) (by simp[bound]) (by omega) htb
 simp (maxDischargeDepth:=6) only[ruW,putL,Nat.reduceLeDiff,xF,ruU,entryE,Nat.reduceLT,Nat.reduceAdd,Nat.reduceMul,Nat.reduceEqDiff]
 refine w_drawP [] [] (by kernel_rfl) (by kernel_rfl) rfl rfl (fun ops anc hA hG=>?_) (by simp) ⟨rfl,rfl⟩
 simp (maxDischargeDepth:=6) only[dropLast_more,dropLast_one,g4,g5,g7,n1,b0',b1',b2',lx0,lx1,lx2,wd_slice,xD,ruD,ruW,putL,Nat.reduceLeDiff,xF,ruU,entryE,Nat.reduceLT,Nat.reduceAdd,Nat.reduceMul,Nat.reduceEqDiff]
 refine genV_sl (v:=u1) (idsV ub) rfl rfl rfl rfl (zA9 rfl) hfv (fun G hG=>by simp only[g4,g5,g7,bnds_none,bnds_some,ruU,entryE,Nat.reduceLT,Nat.reduceAdd,Nat.reduceMul,Nat.reduceEqDiff]; exact sl1 G hG) (by simp[Meets]) ?_
 simp (maxDischargeDepth:=6) only[dropLast_more,dropLast_one,g4,g5,g7,wd_slice,xD,ruD,ruW,putL,Nat.reduceLeDiff,xF,ruU,entryE,Nat.reduceLT,Nat.reduceAdd,Nat.reduceMul,Nat.reduceEqDiff]
 simp (maxDischargeDepth:=6) only[lastO_cons,lastO_one,isDef_call,ff_eq,true_and,xD,ruW,putL,Nat.reduceLeDiff,xF,ruU,entryE,Nat.reduceLT,Nat.reduceAdd,Nat.reduceMul,Nat.reduceEqDiff]
 have hcs:((b.take t).drop s).length=t-s:=by simp; omega
 refine (piece56_c N (lp::F1) (ext G1 []) p v u1 l k ((b.take t).drop s) row s a1 rs1 (fun n hn=>(hi n (id1 n hn)).imp id fun h=>zB3 _ h) ok1 (by rw[ext_next,n1,←hx]; exact hN) (by omega) (by omega) (fun c hcc=>hc c (zE5 (zE6 hcc)))).mono ?_
 rintro _ H3 ⟨rfl,v',a3,k3⟩
 replace k3:KpN N (lp::F1) G1 H3:=k3
 rw[show H3=ext H3 [] from rfl]
 simp (maxDischargeDepth:=6) only[ruW,putL,Nat.reduceLeDiff,xF,ruU,entryE,Nat.reduceLT,Nat.reduceAdd,Nat.reduceMul,Nat.reduceEqDiff]
 rw[rndC_normal]
 have hlp1:lp<G1.next:=by omega
 have hl3:=hl1.of (k3.get hlp1 (.inr (by simp)))
 have hlp3:lp<H3.next:=by have:=k3.next; omega
 refine⟨_,_,(hl3.of (G:=ext H3 []) rfl).get,rfl,LoopAt.set _ _ _,v',?_,?_⟩
 ·rw[ext_setLoop hlp3]
  exact a3.loop (q:=lp) (Mod.upd (zA8.2 rfl)) (zD7 ..)
 ·rw[ext_setLoop hlp3]
  exact (k1.trans (k3.sub fun n hn=>zB3 _ hn)).trans (KpN.one (q:=lp) (Mod.upd (zA8.2 rfl)) hNlp hlF)
theorem piecesR_none {row i e:Nat} {a b:List Ce} (h:¬(pieceR a b i e).1<(pieceR a b i e).2):∀ (f:Nat) (p:Lk),piecesR row a b e f i p=([],p)
 |0,_=>rfl
 |f+1,p=>by rw[piecesR,if_neg h]
theorem RowS.scv {H:AHeap} {v:Value} {l:List Ce} (h:RowS H v l) (hne:l≠[]):scb H.next v=true:=by
 rcases h with⟨h,_⟩|⟨_,h⟩
 ·exact absurd h hne
 ·exact h.sc
theorem RowS.one {H:AHeap} {v:Value} {l:List Ce} (h:RowS H v l):one v=true:=by
 obtain⟨a,c,rfl⟩:=h.sl
 rfl
theorem RowS.get {H:AHeap} {v:Value} {l:List Ce} (h:RowS H v l) (hne:l≠[]):∀ n∈idsV v,H.get n≠none:=fun n hn=>by
 rcases h with⟨h,_⟩|⟨_,h⟩
 ·exact absurd h hne
 ·exact (h.ne n hn).1
theorem rowW_c (N:Nat) (F:List Nat) (H:AHeap) (p:Nat) (v ua ub:Value) (l:List Op) (k:Lk) (row:Nat) (a b:List Ce) (w:WrAt N F H p v l k) (h0:RowS H ua a) (h1:RowS H ub b) (hi0:∀ n∈idsV ua,n<N∨n∈F) (hi1:∀ n∈idsV ub,n<N∨n∈F)
  (hab:a.length=b.length) (hne:b≠[]) (hbl:b.length≤10000) (hll:l.length+3*b.length≤70000) (hc:∀ c∈b,c.rune≠-1→isR c.rune=true) (hok:H.base≤H.next) (hN:N≤H.next) :
  CallA Tryd.prog 39 [.pointer (some ⟨p,0,none⟩),.int .i64 (row:Int),ua,ub] H (fun out X=>out=.ok (.tuple #[])∧∃ v',WrAt N F X p v' (l++(lineR row a b k).1) (lineR row a b k).2∧KpN N F H X):=by
 obtain⟨x,hx⟩:∃ x,H.next=x:=⟨_,rfl⟩
 have hxb:H.base≤x:=hx▸hok
 have hnea:a≠[]:=fun e=>hne (zD0 (by rw[←hab,e]; rfl))
 have hpl:=w.lt
 rw[hx]at hpl
 have hsb:=h1.scv hne
 have hsa:=h0.scv hnea
 have hob:=h1.one
 have hoa:=h0.one
 rw[hx]at hsb hsa
 have hsb':=hsb
 obtain⟨a1,c1,e1⟩:=h1.sl
 rw[e1]at hsb'
 refine callE_fn mixed Tryd.func39 rfl Tryd.ntmps39 (zA9 rfl) ?_
 rw[e1]
 simp (maxDischargeDepth:=6) only[hx,hxb,hpl,hsb',xD,ruW,putL,Nat.reduceLeDiff,xF,ruU,entryE,Nat.reduceLT,Nat.reduceAdd,Nat.reduceMul,Nat.reduceEqDiff]
 rw[←e1]
 refine w_env fun E hE=>?_
 have g2:E 2=ua:=by rw[hE]; simp only[ruU,entryE,Nat.reduceLT,Nat.reduceAdd,Nat.reduceMul,Nat.reduceEqDiff]
 have g4:E 4=.pointer (some ⟨x+0,0,none⟩):=by rw[hE]; simp only[ruU,entryE,Nat.reduceLT,Nat.reduceAdd,Nat.reduceMul,Nat.reduceEqDiff]
 have g5:E 5=.pointer (some ⟨x+1,0,none⟩):=by rw[hE]; simp only[ruU,entryE,Nat.reduceLT,Nat.reduceAdd,Nat.reduceMul,Nat.reduceEqDiff]
 have g7:E 7=.pointer (some ⟨x+2,0,none⟩):=by rw[hE]; simp only[ruU,entryE,Nat.reduceLT,Nat.reduceAdd,Nat.reduceMul,Nat.reduceEqDiff]
 have g8:E 8=.int .i64 (b.length:Int):=by rw[hE]; simp only[ruU,entryE,Nat.reduceLT,Nat.reduceAdd,Nat.reduceMul,Nat.reduceEqDiff]
 clear hE
 generalize hX:ext H _=X
 have mX:Mod [] H X:=hX▸Mod.ext hok
 have nX:X.next=x+3:=by rw[←hX,ext_next,hx]; rfl
 have okX:=mX.ok hok
 have hXb:X.base≤x+3:=nX▸okX
 have bX0:bk X (x+0)=some ⟨62,false,[.pointer (some ⟨p,0,none⟩)]⟩:=by rw[←hX,bk_at hx (by simp)]; rfl
 have bX1:bk X (x+1)=some ⟨3,false,[.int .i64 (row:Int)]⟩:=by rw[←hX,bk_at hx (by simp)]; rfl
 have bX2:bk X (x+2)=some ⟨56,false,[ub]⟩:=by rw[←hX,bk_at hx (by simp)]; rfl
 clear hX
 have lx2:x+2<x+3:=by omega
 obtain⟨T,hT⟩:∃ T,tailR b b.length=T:=⟨_,rfl⟩
 have hTl:=tailR_le b b.length
 rw[hT]at hTl
 have h1X:=h1.mod0 mX
 have h0X:=h0.mod0 mX
 refine blockC_meet (fun E' H'=>H'=ext X []∧E' 2=ua∧E' 4=.pointer (some ⟨x+0,0,none⟩)∧E' 5=.pointer (some ⟨x+1,0,none⟩)∧E' 7=.pointer (some ⟨x+2,0,none⟩)∧E' 8=.int .i64 (T:Int)) ?_ ?_
 ·refine w_loop (fun (j:Nat) E' H'=>H'=ext X []∧E' 2=ua∧E' 4=.pointer (some ⟨x+0,0,none⟩)∧E' 5=.pointer (some ⟨x+1,0,none⟩)∧E' 7=.pointer (some ⟨x+2,0,none⟩)∧E' 8=.int .i64 (j:Int)∧j≤b.length∧tailR b j=T) (fun j=>j) b.length ⟨rfl,g2,g4,g5,g7,g8,zA4 _,hT⟩ ?_
  clear g2 g4 g5 g7 g8
  rintro j E H' ⟨hH,g2,g4,g5,g7,g8,hj,ht⟩
  rw[hH]
  cases j with
  |zero =>
   have hc0:decide ((0:Int)<((0:Nat):Int))=false:=by decide
   rw[tailR]at ht
   simp (maxDischargeDepth:=6) only[g2,g4,g5,g7,g8,hc0,xD,ruW,putL,Nat.reduceLeDiff,xF,ruU,entryE,Nat.reduceLT,Nat.reduceAdd,Nat.reduceMul,Nat.reduceEqDiff]
   exact joinR_normal ⟨rfl,by simp only[g2,ruU,entryE,Nat.reduceLT,Nat.reduceAdd,Nat.reduceMul,Nat.reduceEqDiff],by simp only[g4,ruU,entryE,Nat.reduceLT,Nat.reduceAdd,Nat.reduceMul,Nat.reduceEqDiff],by simp only[g5,ruU,entryE,Nat.reduceLT,Nat.reduceAdd,Nat.reduceMul,Nat.reduceEqDiff],by simp only[g7,ruU,entryE,Nat.reduceLT,Nat.reduceAdd,Nat.reduceMul,Nat.reduceEqDiff],by simp only[g8,ruU,entryE,Nat.reduceLT,Nat.reduceAdd,Nat.reduceMul,Nat.reduceEqDiff]; rw[←ht]⟩
  |succ j =>
   have hc0:decide ((0:Int)<((j+1:Nat):Int))=true:=decide_eq_true (by omega)
   have wk:IntKind.i64.wrap (((j+1:Nat):Int)-1)=(j:Int):=(wrap_sm (by omega) (by omega)).trans (by omega)
   rcases id h1X.at_ with⟨h,_⟩|⟨_,n1,o1,s1,x1,t1,p1,L1,ev1,b1,n1l,le1,tk1⟩
   ·exact absurd h hne
   obtain⟨r1,hr1⟩:∃ r,b[j]?=some r:=⟨_,zA6 (by omega)⟩
   have i1:=row_ia (n:=n1) (off:=o1) (s:=s1) (cap:=x1) (len:=b.length) (i:=(j:Int)) rfl (by omega)
   have q1:=row_load (e:=t1) (o:=p1) hr1 le1 tk1
   rw[nX]at n1l
   rw[tailR,hr1]at ht
   have bX2':=bX2
   rw[ev1]at bX2'
   obtain⟨d,hd⟩:∃ d,decide (r1=Ce.sp)=d:=⟨_,rfl⟩
   simp (maxDischargeDepth:=6) only[g2,g4,g5,g7,g8,nX,bX2',lx2,hc0,wk,i1,b1,n1l,q1,qk_old,Ce.val,xD,ruW,putL,Nat.reduceLeDiff,xF,ruU,entryE,Nat.reduceLT,Nat.reduceAdd,Nat.reduceMul,Nat.reduceEqDiff]
   refine w_eqS (ts:=[3,3,3,4,4,4]) (xs:=r1.cells) (ys:=Ce.sp.cells) (r:=d) fl55 ag55 gd55 (by rw[ce_eqL,hd]; rfl) (by simp only[ruU,entryE,Nat.reduceLT,Nat.reduceAdd,Nat.reduceMul,Nat.reduceEqDiff]) (by simp only[ruU,entryE,Nat.reduceLT,Nat.reduceAdd,Nat.reduceMul,Nat.reduceEqDiff]) (by decide) (by simp only[ruU,entryE,Nat.reduceLT,Nat.reduceAdd,Nat.reduceMul,Nat.reduceEqDiff]; rfl) (by simp only[ruU,entryE,Nat.reduceLT,Nat.reduceAdd,Nat.reduceMul,Nat.reduceEqDiff]; rfl) (ce_fits _) (ce_fits _) ?_
   cases d with
   |true =>
    rw[of_decide_eq_true hd,if_pos rfl]at ht
    simp (maxDischargeDepth:=6) only[g2,g4,g5,g7,g8,wk,xD,ruW,putL,Nat.reduceLeDiff,xF,ruU,entryE,Nat.reduceLT,Nat.reduceAdd,Nat.reduceMul,Nat.reduceEqDiff]
    refine loopC_next ⟨j,by omega,rfl,?_,?_,?_,?_,?_,by omega,ht⟩<;>simp only[g2,g4,g5,g7,g8,wk,ruU,entryE,Nat.reduceLT,Nat.reduceAdd,Nat.reduceMul,Nat.reduceEqDiff]
   |false =>
    have hne2:=of_decide_eq_false hd
    rw[if_neg (fun e=>hne2 (Option.some.inj e))]at ht
    simp (maxDischargeDepth:=6) only[g2,g4,g5,g7,g8,wk,xD,ruW,putL,Nat.reduceLeDiff,xF,ruU,entryE,Nat.reduceLT,Nat.reduceAdd,Nat.reduceMul,Nat.reduceEqDiff]
    exact joinR_normal ⟨rfl,by simp only[g2,ruU,entryE,Nat.reduceLT,Nat.reduceAdd,Nat.reduceMul,Nat.reduceEqDiff],by simp only[g4,ruU,entryE,Nat.reduceLT,Nat.reduceAdd,Nat.reduceMul,Nat.reduceEqDiff],by simp only[g5,ruU,entryE,Nat.reduceLT,Nat.reduceAdd,Nat.reduceMul,Nat.reduceEqDiff],by simp only[g7,ruU,entryE,Nat.reduceLT,Nat.reduceAdd,Nat.reduceMul,Nat.reduceEqDiff],by simp only[g8,ruU,entryE,Nat.reduceLT,Nat.reduceAdd,Nat.reduceMul,Nat.reduceEqDiff]; rw[←ht]⟩
 clear g2 g4 g5 g7 g8 E
 rintro E H' ⟨hH,g2,g4,g5,g7,g8⟩
 rw[hH]
 clear hH H'
 simp (maxDischargeDepth:=6) only[g2,g4,g5,g7,g8,nX,bX2,lx2,xD,ruW,putL,Nat.reduceLeDiff,xF,ruU,entryE,Nat.reduceLT,Nat.reduceAdd,Nat.reduceMul,Nat.reduceEqDiff]
 have hp55:=pieces55_c (ext X []) ua ub T okX (by rw[show (ext X []).next=x+3 from nX]; exact sc_add hsa) (by rw[show (ext X []).next=x+3 from nX]; exact sc_add hsb) hoa hob
 rw[show (ext X []).next=x+3 from nX]at hp55
 refine hp55.mono ?_
 rintro _ Y ⟨rfl,hY⟩
 have mY:Mod [] X Y:=by rw[hY]; exact Mod.ext okX
 have nY:Y.next=x+6:=by rw[hY,ext_next,show (ext X []).next=x+3 from nX]; rfl
 have bY0:bk Y (x+3+0)=some ⟨56,false,[ua]⟩:=by rw[hY,bk_at (show (ext X []).next=x+3 from nX) (by simp)]; rfl
 have bY1:bk Y (x+3+1)=some ⟨56,false,[ub]⟩:=by rw[hY,bk_at (show (ext X []).next=x+3 from nX) (by simp)]; rfl
 have bY2:bk Y (x+3+2)=some ⟨3,false,[.int .i64 (T:Int)]⟩:=by rw[hY,bk_at (show (ext X []).next=x+3 from nX) (by simp)]; rfl
 clear hY hp55
 have okY:=mY.ok okX
 rw[show Y=ext Y [] from rfl]
 simp (maxDischargeDepth:=6) only[g2,g4,g5,g7,g8,xD,ruW,putL,Nat.reduceLeDiff,xF,ruU,entryE,Nat.reduceLT,Nat.reduceAdd,Nat.reduceMul,Nat.reduceEqDiff]
 refine w_env fun E' hE=>?_
 have r2:E' 2=ua:=by rw[hE]; simp only[g2,ruU,entryE,Nat.reduceLT,Nat.reduceAdd,Nat.reduceMul,Nat.reduceEqDiff]
 have r4:E' 4=.pointer (some ⟨x+0,0,none⟩):=by rw[hE]; simp only[g4,ruU,entryE,Nat.reduceLT,Nat.reduceAdd,Nat.reduceMul,Nat.reduceEqDiff]
 have r5:E' 5=.pointer (some ⟨x+1,0,none⟩):=by rw[hE]; simp only[g5,ruU,entryE,Nat.reduceLT,Nat.reduceAdd,Nat.reduceMul,Nat.reduceEqDiff]
 have r7:E' 7=.pointer (some ⟨x+2,0,none⟩):=by rw[hE]; simp only[g7,ruU,entryE,Nat.reduceLT,Nat.reduceAdd,Nat.reduceMul,Nat.reduceEqDiff]
 have r8:E' 8=.int .i64 (T:Int):=by rw[hE]; simp only[g8,ruU,entryE,Nat.reduceLT,Nat.reduceAdd,Nat.reduceMul,Nat.reduceEqDiff]
 have r29:E' 29=.func (.func 78) ⟨[]⟩ ⟨[.pointer (some ⟨x+3+2,0,none⟩),.pointer (some ⟨x+3+0,0,none⟩),.pointer (some ⟨x+3+1,0,none⟩)]⟩:=by rw[hE]; simp only[ruU,entryE,Nat.reduceLT,Nat.reduceAdd,Nat.reduceMul,Nat.reduceEqDiff]
 clear hE g2 g4 g5 g7 g8 E
 refine w_rangeK (f:=78) (ca:=[.pointer (some ⟨x+3+2,0,none⟩),.pointer (some ⟨x+3+0,0,none⟩),.pointer (some ⟨x+3+1,0,none⟩)]) okY (by decide) r29 (by kernel_rfl) fun K hlp hdf mK nK=>?_
 replace mK:Mod [] Y K:=mK []
 rw[show (ext Y []).next=x+6 from nY]at hlp hdf nK ⊢
 have hlp':∃ asg bod,LoopAt K (x+6+1) (lpR asg bod (x+6)) (rvOf 56 E')∧some (asg,bod)=Tryd.f39.body.bind rangeOf:=⟨_,_,hlp,rfl⟩
 obtain⟨asg,bod,hlp,hasg⟩:=hlp'
 have mHK:=(mX.trans mY).trans mK
 have mXK:=mY.trans mK
 have okK:=mHK.ok hok
 obtain⟨F1,hF1⟩:∃ F1,F1=[x+0,x+1,x+2,x+3+0,x+3+1,x+3+2,x+6]++F:=⟨_,rfl⟩
 have hFF:∀ n∈F,n∈F1:=fun n hn=>by rw[hF1]; exact zE2 _ hn
 have hFl:∀ n∈F1,n<x+7:=fun n hn=>by
  rw[hF1]at hn
  rcases zB5.1 hn with h|h
  ·simp only[zB1,List.not_mem_nil,or_false]at h; omega
  ·have:=w.fl n h; omega
 have hlpF:x+6+1∉F1:=fun h=>by have:=hFl _ h; omega
 have wK:WrAt N ((x+6+1)::F1) K p v l k:=by
  rw[hF1]
  refine w.mores (Q:=[x+6+1,x+0,x+1,x+2,x+3+0,x+3+1,x+3+2,x+6]) mHK fun q hq=>?_
  simp only[zB1,List.not_mem_nil,or_false]at hq
  omega
 have hm:∀ q,q=x+0∨q=x+1∨q=x+2∨q=x+3+0∨q=x+3+1∨q=x+3+2∨q=x+6→q∈F1:=fun q hq=>by
  rw[hF1]
  refine zE4 _ ?_
  simp only[zB1,List.not_mem_nil,or_false]
  exact hq
 have bK0:=(mXK.bk (n:=x+0) (by omega) (by simp)).trans bX0
 have bK1:=(mXK.bk (n:=x+1) (by omega) (by simp)).trans bX1
 have bK2:=(mXK.bk (n:=x+2) (by omega) (by simp)).trans bX2
 have bK3:=(mK.bk (n:=x+3+0) (by omega) (by simp)).trans bY0
 have bK4:=(mK.bk (n:=x+3+1) (by omega) (by simp)).trans bY1
 have bK5:=(mK.bk (n:=x+3+2) (by omega) (by simp)).trans bY2
 have h0K:=h0.mod0 mHK
 have h1K:=h1.mod0 mHK
 have hi0K:∀ n∈idsV ua,n<N∨n∈F1:=fun n hn=>(hi0 n hn).imp id (hFF n)
 have hi1K:∀ n∈idsV ub,n<N∨n∈F1:=fun n hn=>(hi1 n hn).imp id (hFF n)
 obtain⟨L,hL⟩:∃ L,l++(piecesR row a b T (b.length+1) 0 k).1=L:=⟨_,rfl⟩
 obtain⟨Kk,hKk⟩:∃ Kk,(piecesR row a b T (b.length+1) 0 k).2=Kk:=⟨_,rfl⟩
 have hline:lineR row a b k=((piecesR row a b T (b.length+1) 0 k).1++endR row a b T,Kk):=by rw[←hKk,←hT]; rfl
 rw[hline]
 simp only
 rw[←zG1,hL]
 have hrd:∀ G,KpN N F1 K G→Rd78 G (x+3+2) (x+3+0) (x+3+1) T ua ub a b:=fun G kG=>by
  have:=kG.next
  exact⟨kG.ok okK,(kG.bk (by omega) (.inr (hm _ (by omega)))).trans bK5,(kG.bk (by omega) (.inr (hm _ (by omega)))).trans bK3,(kG.bk (by omega) (.inr (hm _ (by omega)))).trans bK4,by omega,by omega,by omega,(h0K.kp kG hi0K).at_,(h1K.kp kG hi1K).at_⟩
 refine (pieces78_c K (fun i G=>LoopAt G (x+6+1) (lpR asg bod (x+6)) (rvOf 56 E')∧KpN N F1 K G∧∃ v' l' k' f,WrAt N ((x+6+1)::F1) G p v' l' k'∧l'++(piecesR row a b T f i k').1=L∧(piecesR row a b T f i k').2=Kk∧b.length+1≤f+i∧i≤b.length∧l'.length≤l.length+3*i)
  ⟨hlp,KpN.refl,v,l,k,_,wK,hL,hKk,zA4 _,zB2 _,by omega⟩ (by omega) (by omega) (by omega) (fun i G hI=>hrd G hI.2.1) (fun i G hI hlt=>?_)).mono ?_
 ·obtain⟨hlG,kG,v',l',k',f,wG,hL',hK',hf,hi,hll'⟩:=hI
  have hpl2:=pieceR_le a b i T hTl hi
  have hpg:=pieceR_ge a b i T
  obtain⟨s,hs⟩:∃ s,(pieceR a b i T).1=s:=⟨_,rfl⟩
  obtain⟨t,ht⟩:∃ t,(pieceR a b i T).2=t:=⟨_,rfl⟩
  obtain⟨f',rfl⟩:∃ f',f=f'+1:=⟨f-1,by omega⟩
  rw[piecesR,if_pos hlt]at hL' hK'
  rw[ht]at hpl2
  rw[hs,ht]at hlt hpg hL' hK' ⊢
  simp only at hL' hK'
  have hcsl:((b.take t).drop s).length=t-s:=by simp; omega
  have hrl:=runsR_len row s ((b.take t).drop s) k'
  have hkn:=kG.next
  refine (row_step hasg r4 r5 r7 hlG wG hlpF (by omega) ((kG.bk (by omega) (.inr (hm _ (by omega)))).trans bK0) ((kG.bk (by omega) (.inr (hm _ (by omega)))).trans bK1) ((kG.bk (by omega) (.inr (hm _ (by omega)))).trans bK2) (hm _ (by omega)) (hm _ (by omega)) (hm _ (by omega)) (h1K.kp kG hi1K) hi1K (kG.ok okK) (by omega) hlt hpl2 (by omega) hbl hc).mono ?_
  rintro out G' ⟨rfl,hl2,v2,w2,k2⟩
  refine⟨rfl,hl2,kG.trans k2,v2,_,_,f',w2,?_,hK',by omega,hpl2,?_⟩
  ·rw[zG1]; exact hL'
  ·rw[zB7]; omega
 rintro _ X2 ⟨rfl,i,⟨hl2,k2,v2,l2,kk,f,w2,hL2,hK2,-,hi2,hll2⟩,hni⟩
 rw[piecesR_none hni]at hL2 hK2
 simp only[zC8]at hL2 hK2
 subst hL2 hK2
 refine⟨_,_,_,hl2.get,by simp[lpR],rfl,?_⟩
 generalize hZ:setLoop X2 (x+6+1) _ _=Z
 have mZ:Mod [x+6+1] X2 Z:=hZ▸Mod.upd (by simp)
 have wZ:=w2.loop mZ (by simp)
 have kZ:KpN N F1 K Z:=k2.trans (KpN.one mZ (by omega) hlpF)
 clear hZ
 have okZ:=kZ.ok okK
 have hzn:=kZ.next
 obtain⟨z,hz⟩:∃ z,Z.next=z:=⟨_,rfl⟩
 have hzb:Z.base≤z:=hz▸okZ
 have bZ0:=(kZ.bk (by omega) (.inr (hm _ (by omega)))).trans bK0
 have bZ1:=(kZ.bk (by omega) (.inr (hm _ (by omega)))).trans bK1
 have bZ2:=(kZ.bk (by omega) (.inr (hm _ (by omega)))).trans bK2
 have lz0:x+0<z:=by omega
 have lz1:x+1<z:=by omega
 have lz2:x+2<z:=by omega
 have hdZ:Z.get (x+6)=some ⟨.deferred (some []),false,⟨[],0⟩⟩:=(kZ.get (by omega) (.inr (hm _ (by omega)))).trans hdf
 have h0Z:=h0K.kp kZ hi0K
 have h1Z:=h1K.kp kZ hi1K
 obtain⟨u0,sl0,rs0,-,-⟩:=h0Z.slice hnea (x:=some (.int .i64 (T:Int))) (y:=none) (lo:=T) (hi:=a.length) (by simp[bound]) rfl (by omega) (zA4 _)
 obtain⟨u1,sl1,rs1,-,-⟩:=h1Z.slice hne (x:=some (.int .i64 (T:Int))) (y:=none) (lo:=T) (hi:=b.length) (by simp[bound]) rfl (by omega) (zA4 _)
 rw[zF6]at rs0 rs1
 obtain⟨d,hd⟩:∃ d,decide (a.drop T=b.drop T)=d:=⟨_,rfl⟩
 rw[show Z=ext Z [] from rfl]
 simp (maxDischargeDepth:=6) only[r2,r4,r5,r7,r8,hz,bZ0,bZ1,bZ2,lz0,lz1,lz2,xD,ruW,putL,Nat.reduceLeDiff,xF,ruU,entryE,Nat.reduceLT,Nat.reduceAdd,Nat.reduceMul,Nat.reduceEqDiff]
 refine w_drawB [] [] (by kernel_rfl) rfl rfl fun ops anc hA hG=>?_
 simp (maxDischargeDepth:=6) only[r2,r4,r5,r7,r8,hz,bZ0,bZ1,bZ2,lz0,lz1,lz2,wd_slice,xD,ruD,ruW,putL,Nat.reduceLeDiff,xF,ruU,entryE,Nat.reduceLT,Nat.reduceAdd,Nat.reduceMul,Nat.reduceEqDiff]
 refine genV_sl (v:=u0) (idsV ua) rfl rfl rfl rfl (zA9 rfl) (h0Z.get hnea) (fun G hG=>by simp only[r2,r8,bnds_none,bnds_some,ruU,entryE,Nat.reduceLT,Nat.reduceAdd,Nat.reduceMul,Nat.reduceEqDiff]; exact sl0 G hG) (by simp[Meets]) ?_
 simp (maxDischargeDepth:=6) only[r2,r4,r5,r7,r8,hz,bZ0,bZ1,bZ2,lz0,lz1,lz2,wd_slice,xD,ruD,ruW,putL,Nat.reduceLeDiff,xF,ruU,entryE,Nat.reduceLT,Nat.reduceAdd,Nat.reduceMul,Nat.reduceEqDiff]
 refine genV_sl (v:=u1) (idsV ub) rfl rfl rfl rfl (zA9 rfl) (h1Z.get hne) (fun G hG=>by simp only[r7,r8,bnds_none,bnds_some,ruU,entryE,Nat.reduceLT,Nat.reduceAdd,Nat.reduceMul,Nat.reduceEqDiff]; exact sl1 G hG) (by simp[Meets]) ?_
 simp (maxDischargeDepth:=6) only[r2,r4,r5,r7,r8,wd_slice,xD,ruD,ruW,putL,Nat.reduceLeDiff,xF,ruU,entryE,Nat.reduceLT,Nat.reduceAdd,Nat.reduceMul,Nat.reduceEqDiff]
 refine genV_quiet (v:=.bool (decide (a.drop T=b.drop T))) (rowF (a.drop T) u0++rowF (b.drop T) u1) (by simp only[ruU,entryE,Nat.reduceLT,Nat.reduceAdd,Nat.reduceMul,Nat.reduceEqDiff]) (by kernel_rfl) (by decide) (fun m hm=>?_) (fun G hn hg=>?_) (by simp[Meets]) ?_
 ·rcases zB5.1 hm with hm|hm
  ·exact rs0.at_.f m hm
  ·exact rs1.at_.f m hm
 ·simp only[ruU,entryE,Nat.reduceLT,Nat.reduceAdd,Nat.reduceMul,Nat.reduceEqDiff]
  exact eqCells_c G u0 u1 _ _ (rs0.at_.ofF (zE9 hn.symm) fun m hm=>hg m (zE4 _ hm)) (rs1.at_.ofF (zE9 hn.symm) fun m hm=>hg m (zE2 _ hm)) (by rw[zC5]; omega)
 have hfin:∀ (Z':AHeap) (v':Value) (l':List Op) (kk':Lk),WrAt N ((x+6+1)::F1) Z' p v' l' kk'→KpN N F1 Z Z'→WrAt N F (Z'.upd (x+6) (some ⟨.deferred none,false,⟨[],0⟩⟩)) p v' l' kk'∧KpN N F H (Z'.upd (x+6) (some ⟨.deferred none,false,⟨[],0⟩⟩)):=fun Z' v' l' kk' hw hk=>by
  have m5:Mod [x+6] Z' (Z'.upd (x+6) (some ⟨.deferred none,false,⟨[],0⟩⟩)):=Mod.upd (by simp)
  refine⟨(hw.loop m5 (zB3 _ (hm _ (by omega)))).sub fun n hn=>zB3 _ (hFF n hn),?_⟩
  exact (((KpN.of0 mHK).trans (kZ.sub hFF)).trans (hk.sub hFF)).trans (KpN.one m5 (by omega) fun h=>by have:=w.fl _ h; omega)
 simp (maxDischargeDepth:=6) only[r2,r4,r5,r7,r8,hd,xD,ruD,ruW,putL,Nat.reduceLeDiff,xF,ruU,entryE,Nat.reduceLT,Nat.reduceAdd,Nat.reduceMul,Nat.reduceEqDiff]
 cases d with
 |true =>
  have he:=of_decide_eq_true hd
  simp (maxDischargeDepth:=6) only[zD3,xD,ruW,putL,Nat.reduceLeDiff,xF,ruU,entryE,Nat.reduceLT,Nat.reduceAdd,Nat.reduceMul,Nat.reduceEqDiff]
  refine lv_mark ⟨_,_,hdZ⟩ ?_
  simp (maxDischargeDepth:=6) only[Tryd.results39,xD,ruW,putL,Nat.reduceLeDiff,xF,ruU,entryE,Nat.reduceLT,Nat.reduceAdd,Nat.reduceMul,Nat.reduceEqDiff]
  refine⟨trivial,v2,?_⟩
  rw[endR,if_pos he,zC8]
  exact hfin Z v2 _ _ wZ KpN.refl
 |false =>
  have he:=of_decide_eq_false hd
  simp (maxDischargeDepth:=6) only[r2,r4,r5,r7,r8,hz,bZ0,bZ1,bZ2,lz0,lz1,lz2,zE1,xD,ruW,putL,Nat.reduceLeDiff,xF,ruU,entryE,Nat.reduceLT,Nat.reduceAdd,Nat.reduceMul,Nat.reduceEqDiff]
  refine (put_c N ((x+6+1)::F1) (ext Z []) p v2 _ _ (opM row T) wZ okZ (by omega) (by rw[ext_next,hz]; simp only[zC3]; omega)).mono ?_
  rintro _ Z2 ⟨rfl,v3,w3,k3⟩
  replace k3:KpN N ((x+6+1)::F1) Z Z2:=k3
  have bZ0':=(k3.bk (by omega) (.inr (zB3 _ (hm _ (by omega))))).trans bZ0
  have hz2:=k3.next
  have lz0':x+0<Z2.next:=by omega
  have ok2:=k3.ok okZ
  rw[show Z2=ext Z2 [] from rfl]
  simp (maxDischargeDepth:=6) only[r2,r4,r5,r7,r8,bZ0',lz0',xD,ruW,putL,Nat.reduceLeDiff,xF,ruU,entryE,Nat.reduceLT,Nat.reduceAdd,Nat.reduceMul,Nat.reduceEqDiff]
  refine (put_c N ((x+6+1)::F1) (ext Z2 []) p v3 _ _ (opK 4) w3 ok2 (by rw[zB7]; simp only[List.length_singleton]; omega) (by rw[ext_next]; simp only[zC3]; omega)).mono ?_
  rintro _ Z3 ⟨rfl,v4,w4,k4⟩
  replace k4:KpN N ((x+6+1)::F1) Z2 Z3:=k4
  have hd3:=(k4.get (n:=x+6) (by omega) (.inr (zB3 _ (hm _ (by omega))))).trans ((k3.get (n:=x+6) (by omega) (.inr (zB3 _ (hm _ (by omega))))).trans hdZ)
  rw[show Z3=ext Z3 [] from rfl]
  simp (maxDischargeDepth:=6) only[xD,ruW,putL,Nat.reduceLeDiff,xF,ruU,entryE,Nat.reduceLT,Nat.reduceAdd,Nat.reduceMul,Nat.reduceEqDiff]
  refine lv_mark ⟨_,_,hd3⟩ ?_
  simp (maxDischargeDepth:=6) only[Tryd.results39,xD,ruW,putL,Nat.reduceLeDiff,xF,ruU,entryE,Nat.reduceLT,Nat.reduceAdd,Nat.reduceMul,Nat.reduceEqDiff]
  refine⟨trivial,v4,?_⟩
  have:=hfin Z3 v4 _ _ w4 ((k3.trans k4).sub fun n hn=>zB3 _ hn)
  rw[endR,if_neg he]
  rw[zG1]at this
  exact this
theorem GridS.ne {H:AHeap} {v:Value} {g:List (List Ce)} (h:GridS H v g) (hg:g≠[]):∀ n∈idsV v,H.get n≠none∧n<H.next:=by
 rcases h with⟨h,_⟩|⟨_,rvs,_,h,_⟩
 ·exact absurd h hg
 ·exact h.ne
theorem scroll_c (H:AHeap) (v0 v1:Value) (g h:List (List Ce)) (h0s:GridS H v0 g) (h1s:GridS H v1 h) (hw:∀ l∈g,l.length<1000000) (hwh:∀ l∈h,l.length<1000000) (hgh:g.length=h.length) (hl:h.length<1000000) :
  Pure 36 [v0,v1] H (.tuple #[match shiftR g h with|some o=>o.val|none=>Op.val ⟨0,0,0,0,⟨0,0,false,false,false⟩,.empty⟩,.bool (shiftR g h).isSome]):=by
 have h0:=h0s.at_
 have h1:=h1s.at_
 obtain⟨b,hb⟩:∃ b,H.next=b:=⟨_,rfl⟩
 refine callS_fn mixed Tryd.func36 rfl Tryd.ntmps36 (zA9 rfl) fun wf hsc=>?_
 have hok:=wf.base
 have hbase:H.base≤b:=hb▸hok
 obtain⟨a1,c1,e1⟩:=h1.sl
 rw[e1]
 simp (maxDischargeDepth:=6) only[hb,hbase,ruW,putL,Nat.reduceLeDiff,xF,ruU,entryE,Nat.reduceLT,Nat.reduceAdd,Nat.reduceMul,Nat.reduceEqDiff]
 rw[←e1]
 obtain⟨X0,hX0⟩:∃ X0,ext H [⟨47,false,[.int .i64 0,.int .i64 0,.int .i64 0,.int .i64 0,.int .i64 0,.int .i64 0,.bool false,.bool false,.bool false,.string .empty]⟩]=X0:=⟨_,rfl⟩
 have kz:bk X0 (b+0)=some ⟨47,false,[.int .i64 0,.int .i64 0,.int .i64 0,.int .i64 0,.int .i64 0,.int .i64 0,.bool false,.bool false,.bool false,.string .empty]⟩:=by rw[←hX0,bk_at hb (by simp)]; rfl
 rw[hX0]
 have m0:Mod [] H X0:=hX0▸Mod.ext hok
 have n0:X0.next=b+1:=by rw[←hX0,ext_next,hb]; rfl
 have ok0:=m0.ok hok
 refine w_env fun E hE=>?_
 have q0:E 0=v0:=by rw[hE]; simp only[ruU,entryE,Nat.reduceLT,Nat.reduceAdd,Nat.reduceMul,Nat.reduceEqDiff]
 have q1:E 1=v1:=by rw[hE]; simp only[ruU,entryE,Nat.reduceLT,Nat.reduceAdd,Nat.reduceMul,Nat.reduceEqDiff]
 have q4:E 4=.pointer (some ⟨b+0,0,none⟩):=by rw[hE]; (simp only[ruU,entryE,Nat.reduceLT,Nat.reduceAdd,Nat.reduceMul,Nat.reduceEqDiff]<;>rfl)
 have q6:E 6=.int .i64 ((0:Nat):Int):=by rw[hE]; (simp only[ruU,entryE,Nat.reduceLT,Nat.reduceAdd,Nat.reduceMul,Nat.reduceEqDiff]<;>rfl)
 have q7:E 7=.int .i64 (h.length:Int):=by rw[hE]; simp only[ruU,entryE,Nat.reduceLT,Nat.reduceAdd,Nat.reduceMul,Nat.reduceEqDiff]
 clear hE
 obtain⟨top,htop⟩:∃ t,preR g h=t:=⟨_,rfl⟩
 have hple:=preR_le g h
 rw[htop]at hple
 refine blockC_meet (fun E' H'=>H'=ext X0 []∧E' 0=v0∧E' 1=v1∧E' 4=.pointer (some ⟨b+0,0,none⟩)∧E' 6=.int .i64 (top:Int)∧E' 7=.int .i64 (h.length:Int)) ?_ ?_
 ·refine w_loop (fun (k:Nat) E' H'=>H'=ext X0 []∧E' 0=v0∧E' 1=v1∧E' 4=.pointer (some ⟨b+0,0,none⟩)∧E' 6=.int .i64 (k:Int)∧E' 7=.int .i64 (h.length:Int)∧k≤h.length∧g.take k=h.take k) (fun k=>h.length-k) 0
   ⟨rfl,q0,q1,q4,q6,q7,zB2 _,rfl⟩ ?_
  clear q0 q1 q4 q6 q7
  rintro k E H' ⟨hH,q0,q1,q4,q6,q7,hk,hpre⟩
  rw[hH]
  have hpd:=preR_drop g h k hpre (by omega) hk
  rw[htop]at hpd
  obtain⟨a0,c0,e0⟩:=h0.sl
  obtain⟨a1,c1,e1⟩:=h1.sl
  by_cases hkl:k=h.length
  ·have hc:decide ((k:Int)<(h.length:Int))=false:=by simp[hkl]
   simp (maxDischargeDepth:=6) only[q0,q1,q4,q6,q7,ruW,putL,Nat.reduceLeDiff,xF,ruU,entryE,Nat.reduceLT,Nat.reduceAdd,Nat.reduceMul,Nat.reduceEqDiff]
   refine w_drawB [] [(3,16)] (by kernel_rfl) rfl (by kernel_rfl) fun ops anc hA hG=>?_
   simp only[all2_cons]at hG
   simp (maxDischargeDepth:=6) only[q0,q1,q4,q6,q7,hc,hG,ruD,ruW,putL,Nat.reduceLeDiff,xF,ruU,entryE,Nat.reduceLT,Nat.reduceAdd,Nat.reduceMul,Nat.reduceEqDiff]
   refine joinR_normal ⟨rfl,?_⟩
   refine⟨by simp only[q0,ruU,entryE,Nat.reduceLT,Nat.reduceAdd,Nat.reduceMul,Nat.reduceEqDiff],by simp only[q1,ruU,entryE,Nat.reduceLT,Nat.reduceAdd,Nat.reduceMul,Nat.reduceEqDiff],by simp only[q4,ruU,entryE,Nat.reduceLT,Nat.reduceAdd,Nat.reduceMul,Nat.reduceEqDiff],?_,by simp only[q7,ruU,entryE,Nat.reduceLT,Nat.reduceAdd,Nat.reduceMul,Nat.reduceEqDiff]⟩
   simp only[q6,ruU,entryE,Nat.reduceLT,Nat.reduceAdd,Nat.reduceMul,Nat.reduceEqDiff]
   rw[hpd,zE3 (show h.length≤k by omega)]
   cases g.drop k<;>simp[preR]
  ·have hlt:k<h.length:=by omega
   have hc:decide ((k:Int)<(h.length:Int))=true:=decide_eq_true (by omega)
   obtain⟨w1,hr1⟩:∃ r,g[k]?=some r:=⟨_,zA6 (by omega)⟩
   obtain⟨w2,hr2⟩:∃ r,h[k]?=some r:=⟨_,zA6 (by omega)⟩
   have hd1:g.drop k=w1::g.drop (k+1):=by
    rw[zG2 (by omega)]
    rw[zA6 (by omega)]at hr1
    rw[Option.some.inj hr1]
   have hd2:h.drop k=w2::h.drop (k+1):=by
    rw[zG2 (by omega)]
    rw[zA6 (by omega)]at hr2
    rw[Option.some.inj hr2]
   rw[hd1,hd2,preR]at hpd
   have hg0:=h0.mod0 m0
   have hg1:=h1.mod0 m0
   rcases hg0 with⟨hh,_⟩|⟨_,n1,o1,s1,x1,t1,p1,L1,ev0,b1,n1l,le1,tk1⟩
   ·rw[hh]at hgh; simp at hgh; omega
   rcases hg1 with⟨hh,_⟩|⟨_,n2,o2,s2,x2,t2,p2,L2,ev1,b2,n2l,le2,tk2⟩
   ·rw[hh]at hlt; simp at hlt
   obtain⟨u1,hu1,ra1⟩:=tk1 k w1 hr1
   obtain⟨u2,hu2,ra2⟩:=tk2 k w2 hr2
   have i1:=grid_ia (n:=n1) (off:=o1) (s:=s1) (cap:=x1) (len:=g.length) (i:=(k:Int)) rfl (by omega)
   have i2:=grid_ia (n:=n2) (off:=o2) (s:=s2) (cap:=x2) (len:=h.length) (i:=(k:Int)) rfl (by omega)
   have y1:=grid_load (e:=t1) (o:=p1) hu1
   have y2:=grid_load (e:=t2) (o:=p2) hu2
   rw[n0]at n1l n2l
   have q0':=q0
   have q1':=q1
   rw[ev0]at q0'
   rw[ev1]at q1'
   simp (maxDischargeDepth:=6) only[q0',q1',q4,q6,q7,hc,ruW,putL,Nat.reduceLeDiff,xF,ruU,entryE,Nat.reduceLT,Nat.reduceAdd,Nat.reduceMul,Nat.reduceEqDiff]
   refine w_drawB [] [(3,16)] (by kernel_rfl) rfl (by kernel_rfl) fun ops anc hA hG=>?_
   simp only[all2_cons]at hG
   simp (maxDischargeDepth:=6) only[q0',q1',q4,q6,q7,n0,hc,hG,i1,i2,b1,b2,n1l,n2l,y1,y2,qk_old,ruD,ruW,putL,Nat.reduceLeDiff,xF,ruU,entryE,Nat.reduceLT,Nat.reduceAdd,Nat.reduceMul,Nat.reduceEqDiff]
   refine genV_quiet (v:=.bool (decide (w1=w2))) (rowF w1 u1++rowF w2 u2) (by simp only[ruU,entryE,Nat.reduceLT,Nat.reduceAdd,Nat.reduceMul,Nat.reduceEqDiff]) (by kernel_rfl) (by decide) (fun m hm=>?_) (fun G hn hg=>?_) (by simp[Meets]) ?_
   ·rcases zB5.1 hm with hm|hm
    ·exact ra1.ext.f m hm
    ·exact ra2.ext.f m hm
   ·simp only[ruU,entryE,Nat.reduceLT,Nat.reduceAdd,Nat.reduceMul,Nat.reduceEqDiff]
    exact eqCells_c G u1 u2 w1 w2 (ra1.ext.ofF (zE9 hn.symm) fun m hm=>hg m (zE4 _ hm)) (ra2.ext.ofF (zE9 hn.symm) fun m hm=>hg m (zE2 _ hm)) (hw w1 (zC1 hr1))
   by_cases hr:w1=w2
   ·have hs:decide (w1=w2)=true:=decide_eq_true hr
    simp (maxDischargeDepth:=6) only[q0',q1',q4,q6,q7,hs,hG,wrap_succ (show k<1000000 by omega),ruD,ruW,putL,Nat.reduceLeDiff,xF,ruU,entryE,Nat.reduceLT,Nat.reduceAdd,Nat.reduceMul,Nat.reduceEqDiff]
    refine loopC_next ⟨k+1,by omega,rfl,?_,?_,?_,?_,?_,by omega,?_⟩
    ·simp only[q0,ruU,entryE,Nat.reduceLT,Nat.reduceAdd,Nat.reduceMul,Nat.reduceEqDiff]
    ·simp only[q1,ruU,entryE,Nat.reduceLT,Nat.reduceAdd,Nat.reduceMul,Nat.reduceEqDiff]
    ·simp only[q4,ruU,entryE,Nat.reduceLT,Nat.reduceAdd,Nat.reduceMul,Nat.reduceEqDiff]
    ·simp only[q6,ruU,entryE,Nat.reduceLT,Nat.reduceAdd,Nat.reduceMul,Nat.reduceEqDiff]
    ·simp only[q7,ruU,entryE,Nat.reduceLT,Nat.reduceAdd,Nat.reduceMul,Nat.reduceEqDiff]
    ·rw[List.take_add_one,List.take_add_one,hr1,hr2,hpre,hr]
   ·have hs:decide (w1=w2)=false:=decide_eq_false hr
    rw[if_neg hr]at hpd
    simp (maxDischargeDepth:=6) only[q0',q1',q4,q6,q7,hs,hG,ruD,ruW,putL,Nat.reduceLeDiff,xF,ruU,entryE,Nat.reduceLT,Nat.reduceAdd,Nat.reduceMul,Nat.reduceEqDiff]
    refine joinR_normal ⟨rfl,by simp only[q0,ruU,entryE,Nat.reduceLT,Nat.reduceAdd,Nat.reduceMul,Nat.reduceEqDiff],by simp only[q1,ruU,entryE,Nat.reduceLT,Nat.reduceAdd,Nat.reduceMul,Nat.reduceEqDiff],by simp only[q4,ruU,entryE,Nat.reduceLT,Nat.reduceAdd,Nat.reduceMul,Nat.reduceEqDiff],?_,by simp only[q7,ruU,entryE,Nat.reduceLT,Nat.reduceAdd,Nat.reduceMul,Nat.reduceEqDiff]⟩
    simp only[q6,ruU,entryE,Nat.reduceLT,Nat.reduceAdd,Nat.reduceMul,Nat.reduceEqDiff]
    rw[hpd,zB6]
 rintro E H' ⟨hH,q0,q1,q4,q6,q7⟩
 rw[hH]
 simp (maxDischargeDepth:=6) only[q0,q1,q4,q6,q7,ruW,putL,Nat.reduceLeDiff,xF,ruU,entryE,Nat.reduceLT,Nat.reduceAdd,Nat.reduceMul,Nat.reduceEqDiff]
 obtain⟨bot,hbot⟩:∃ t,sufR g h top h.length=t:=⟨_,rfl⟩
 have hble:=sufR_le g h top h.length
 have hbge:=sufR_ge g h top h.length hple.1
 rw[hbot]at hble hbge
 refine w_env fun E' hE=>?_
 have r0:E' 0=v0:=by rw[hE]; simp only[q0,ruU,entryE,Nat.reduceLT,Nat.reduceAdd,Nat.reduceMul,Nat.reduceEqDiff]
 have r1:E' 1=v1:=by rw[hE]; simp only[q1,ruU,entryE,Nat.reduceLT,Nat.reduceAdd,Nat.reduceMul,Nat.reduceEqDiff]
 have r4:E' 4=.pointer (some ⟨b+0,0,none⟩):=by rw[hE]; simp only[q4,ruU,entryE,Nat.reduceLT,Nat.reduceAdd,Nat.reduceMul,Nat.reduceEqDiff]
 have r6:E' 6=.int .i64 (top:Int):=by rw[hE]; simp only[q6,ruU,entryE,Nat.reduceLT,Nat.reduceAdd,Nat.reduceMul,Nat.reduceEqDiff]
 have r7:E' 7=.int .i64 (h.length:Int):=by rw[hE]; simp only[q7,ruU,entryE,Nat.reduceLT,Nat.reduceAdd,Nat.reduceMul,Nat.reduceEqDiff]
 clear hE q0 q1 q4 q6 q7
 clear E
 refine blockC_meet (fun E' H'=>H'=ext X0 []∧E' 0=v0∧E' 1=v1∧E' 4=.pointer (some ⟨b+0,0,none⟩)∧E' 6=.int .i64 (top:Int)∧E' 7=.int .i64 (bot:Int)) ?_ ?_
 ·refine w_loop (fun (k:Nat) E' H'=>H'=ext X0 []∧E' 0=v0∧E' 1=v1∧E' 4=.pointer (some ⟨b+0,0,none⟩)∧E' 6=.int .i64 (top:Int)∧E' 7=.int .i64 (k:Int)∧k≤h.length∧top≤k∧sufR g h top k=bot) (fun k=>k) h.length
   ⟨rfl,r0,r1,r4,r6,r7,zA4 _,hple.1,hbot⟩ ?_
  clear r0 r1 r4 r6 r7
  rintro k E H' ⟨hH,q0,q1,q4,q6,q7,hk,hkt,hs⟩
  rw[hH]
  by_cases hkl:k=top
  ·have hc:decide ((top:Int)<(k:Int))=false:=by simp[hkl]
   simp (maxDischargeDepth:=6) only[q0,q1,q4,q6,q7,ruW,putL,Nat.reduceLeDiff,xF,ruU,entryE,Nat.reduceLT,Nat.reduceAdd,Nat.reduceMul,Nat.reduceEqDiff]
   refine w_drawB [] [(3,32)] (by kernel_rfl) rfl (by kernel_rfl) fun ops anc hA hG=>?_
   simp only[all2_cons]at hG
   simp (maxDischargeDepth:=6) only[q0,q1,q4,q6,q7,hc,hG,ruD,ruW,putL,Nat.reduceLeDiff,xF,ruU,entryE,Nat.reduceLT,Nat.reduceAdd,Nat.reduceMul,Nat.reduceEqDiff]
   refine joinR_normal ⟨rfl,by simp only[q0,ruU,entryE,Nat.reduceLT,Nat.reduceAdd,Nat.reduceMul,Nat.reduceEqDiff],by simp only[q1,ruU,entryE,Nat.reduceLT,Nat.reduceAdd,Nat.reduceMul,Nat.reduceEqDiff],by simp only[q4,ruU,entryE,Nat.reduceLT,Nat.reduceAdd,Nat.reduceMul,Nat.reduceEqDiff],by simp only[q6,ruU,entryE,Nat.reduceLT,Nat.reduceAdd,Nat.reduceMul,Nat.reduceEqDiff],?_⟩
   simp only[q7,ruU,entryE,Nat.reduceLT,Nat.reduceAdd,Nat.reduceMul,Nat.reduceEqDiff]
   have:sufR g h top k=k:=by
    cases k with
    |zero=>rfl
    |succ k=>rw[sufR,if_neg (fun c=>by omega)]
   rw[←hs,this]
  ·obtain⟨j,rfl⟩:∃ j,k=j+1:=⟨k-1,by omega⟩
   have hc:decide ((top:Int)<((j+1:Nat):Int))=true:=decide_eq_true (by omega)
   have wj:IntKind.i64.wrap (((j+1:Nat):Int)-1)=(j:Int):=(wrap_sm (by omega) (by omega)).trans (by omega)
   obtain⟨w1,hr1⟩:∃ r,g[j]?=some r:=⟨_,zA6 (by omega)⟩
   obtain⟨w2,hr2⟩:∃ r,h[j]?=some r:=⟨_,zA6 (by omega)⟩
   have hd1:g.getD j []=w1:=by rw[zC9,hr1]; rfl
   have hd2:h.getD j []=w2:=by rw[zC9,hr2]; rfl
   rw[sufR,hd1,hd2]at hs
   have hg0:=h0.mod0 m0
   have hg1:=h1.mod0 m0
   rcases hg0 with⟨hh,_⟩|⟨_,n1,o1,s1,x1,t1,p1,L1,ev0,b1,n1l,le1,tk1⟩
   ·rw[hh]at hgh; simp at hgh; omega
   rcases hg1 with⟨hh,_⟩|⟨_,n2,o2,s2,x2,t2,p2,L2,ev1,b2,n2l,le2,tk2⟩
   ·rw[hh]at hk; simp at hk
   obtain⟨u1,hu1,ra1⟩:=tk1 j w1 hr1
   obtain⟨u2,hu2,ra2⟩:=tk2 j w2 hr2
   have i1:=grid_ia (n:=n1) (off:=o1) (s:=s1) (cap:=x1) (len:=g.length) (i:=(j:Int)) rfl (by omega)
   have i2:=grid_ia (n:=n2) (off:=o2) (s:=s2) (cap:=x2) (len:=h.length) (i:=(j:Int)) rfl (by omega)
   have y1:=grid_load (e:=t1) (o:=p1) hu1
   have y2:=grid_load (e:=t2) (o:=p2) hu2
   rw[n0]at n1l n2l
   have q0':=q0
   have q1':=q1
   rw[ev0]at q0'
   rw[ev1]at q1'
   simp (maxDischargeDepth:=6) only[q0',q1',q4,q6,q7,ruW,putL,Nat.reduceLeDiff,xF,ruU,entryE,Nat.reduceLT,Nat.reduceAdd,Nat.reduceMul,Nat.reduceEqDiff]
   refine w_drawB [] [(3,32)] (by kernel_rfl) rfl (by kernel_rfl) fun ops anc hA hG=>?_
   simp only[all2_cons]at hG
   simp (maxDischargeDepth:=6) only[q0',q1',q4,q6,q7,n0,hc,hG,wj,i1,i2,b1,b2,n1l,n2l,y1,y2,qk_old,ruD,ruW,putL,Nat.reduceLeDiff,xF,ruU,entryE,Nat.reduceLT,Nat.reduceAdd,Nat.reduceMul,Nat.reduceEqDiff]
   refine genV_quiet (v:=.bool (decide (w1=w2))) (rowF w1 u1++rowF w2 u2) (by simp only[ruU,entryE,Nat.reduceLT,Nat.reduceAdd,Nat.reduceMul,Nat.reduceEqDiff]) (by kernel_rfl) (by decide) (fun m hm=>?_) (fun G hn hg=>?_) (by simp[Meets]) ?_
   ·rcases zB5.1 hm with hm|hm
    ·exact ra1.ext.f m hm
    ·exact ra2.ext.f m hm
   ·simp only[ruU,entryE,Nat.reduceLT,Nat.reduceAdd,Nat.reduceMul,Nat.reduceEqDiff]
    exact eqCells_c G u1 u2 w1 w2 (ra1.ext.ofF (zE9 hn.symm) fun m hm=>hg m (zE4 _ hm)) (ra2.ext.ofF (zE9 hn.symm) fun m hm=>hg m (zE2 _ hm)) (hw w1 (zC1 hr1))
   by_cases hr:w1=w2
   ·have hsd:decide (w1=w2)=true:=decide_eq_true hr
    rw[if_pos ⟨by omega,hr⟩]at hs
    simp (maxDischargeDepth:=6) only[q0',q1',q4,q6,q7,hsd,hG,wj,ruD,ruW,putL,Nat.reduceLeDiff,xF,ruU,entryE,Nat.reduceLT,Nat.reduceAdd,Nat.reduceMul,Nat.reduceEqDiff]
    refine loopC_next ⟨j,by omega,rfl,?_,?_,?_,?_,?_,by omega,by omega,hs⟩
    ·simp only[q0,ruU,entryE,Nat.reduceLT,Nat.reduceAdd,Nat.reduceMul,Nat.reduceEqDiff]
    ·simp only[q1,ruU,entryE,Nat.reduceLT,Nat.reduceAdd,Nat.reduceMul,Nat.reduceEqDiff]
    ·simp only[q4,ruU,entryE,Nat.reduceLT,Nat.reduceAdd,Nat.reduceMul,Nat.reduceEqDiff]
    ·simp only[q6,ruU,entryE,Nat.reduceLT,Nat.reduceAdd,Nat.reduceMul,Nat.reduceEqDiff]
    ·simp only[q7,wj,ruU,entryE,Nat.reduceLT,Nat.reduceAdd,Nat.reduceMul,Nat.reduceEqDiff]
   ·have hsd:decide (w1=w2)=false:=decide_eq_false hr
    rw[if_neg (fun c=>hr c.2)]at hs
    simp (maxDischargeDepth:=6) only[q0',q1',q4,q6,q7,hsd,hG,ruD,ruW,putL,Nat.reduceLeDiff,xF,ruU,entryE,Nat.reduceLT,Nat.reduceAdd,Nat.reduceMul,Nat.reduceEqDiff]
    refine joinR_normal ⟨rfl,by simp only[q0,ruU,entryE,Nat.reduceLT,Nat.reduceAdd,Nat.reduceMul,Nat.reduceEqDiff],by simp only[q1,ruU,entryE,Nat.reduceLT,Nat.reduceAdd,Nat.reduceMul,Nat.reduceEqDiff],by simp only[q4,ruU,entryE,Nat.reduceLT,Nat.reduceAdd,Nat.reduceMul,Nat.reduceEqDiff],by simp only[q6,ruU,entryE,Nat.reduceLT,Nat.reduceAdd,Nat.reduceMul,Nat.reduceEqDiff],?_⟩
    simp only[q7,ruU,entryE,Nat.reduceLT,Nat.reduceAdd,Nat.reduceMul,Nat.reduceEqDiff]
    rw[←hs]
 rintro E H' ⟨hH,q0,q1,q4,q6,q7⟩
 rw[hH]
 obtain⟨n,hn⟩:∃ n,bot-top=n:=⟨_,rfl⟩
 have wn:IntKind.i64.wrap ((bot:Int)-(top:Int))=(n:Int):=(wrap_sm (by omega) (by omega)).trans (by omega)
 have hsh:shiftR g h=match firstI (upR g h top n) 1 (n-1) with|some i=>some (rollOp 5 top bot i)|none=>(firstI (dnR g h top n) 1 (n-1)).map (rollOp 6 top bot):=by
  unfold shiftR
  simp only[htop,hbot,hn]<;>(cases firstI (upR g h top n) 1 (n-1)<;>rfl)
 simp (maxDischargeDepth:=6) only[q0,q1,q4,q6,q7,wn,ruW,putL,Nat.reduceLeDiff,xF,ruU,entryE,Nat.reduceLT,Nat.reduceAdd,Nat.reduceMul,Nat.reduceEqDiff]
 refine w_env fun E' hE=>?_
 have r0:E' 0=v0:=by rw[hE]; simp only[q0,ruU,entryE,Nat.reduceLT,Nat.reduceAdd,Nat.reduceMul,Nat.reduceEqDiff]
 have r1:E' 1=v1:=by rw[hE]; simp only[q1,ruU,entryE,Nat.reduceLT,Nat.reduceAdd,Nat.reduceMul,Nat.reduceEqDiff]
 have r4:E' 4=.pointer (some ⟨b+0,0,none⟩):=by rw[hE]; simp only[q4,ruU,entryE,Nat.reduceLT,Nat.reduceAdd,Nat.reduceMul,Nat.reduceEqDiff]
 have r6:E' 6=.int .i64 (top:Int):=by rw[hE]; simp only[q6,ruU,entryE,Nat.reduceLT,Nat.reduceAdd,Nat.reduceMul,Nat.reduceEqDiff]
 have r7:E' 7=.int .i64 (bot:Int):=by rw[hE]; simp only[q7,ruU,entryE,Nat.reduceLT,Nat.reduceAdd,Nat.reduceMul,Nat.reduceEqDiff]
 have r8:E' 8=.int .i64 (n:Int):=by rw[hE]; simp only[ruU,entryE,Nat.reduceLT,Nat.reduceAdd,Nat.reduceMul,Nat.reduceEqDiff]
 have r9:E' 9=.int .i64 ((1:Nat):Int):=by rw[hE]; (simp only[ruU,entryE,Nat.reduceLT,Nat.reduceAdd,Nat.reduceMul,Nat.reduceEqDiff]<;>rfl)
 clear hE q0 q1 q4 q6 q7
 clear E
 have lz:b+0<b+1:=by omega
 have hfin:∀ vs,Mod [] H (uw X0 (b+0) 0 vs):=fun vs=>m0.step (Mod.uw (W:=[b+0]) (by simp)) hok (fun n hn=>.inr (by simp only[zA8]at hn; omega))
 refine blockC_meet (fun E' H'=>H'=ext X0 []∧E' 0=v0∧E' 1=v1∧E' 4=.pointer (some ⟨b+0,0,none⟩)∧E' 6=.int .i64 (top:Int)∧E' 7=.int .i64 (bot:Int)∧E' 8=.int .i64 (n:Int)∧firstI (upR g h top n) 1 (n-1)=none) ?_ ?_
 ·refine w_loop (fun (i:Nat) E' H'=>H'=ext X0 []∧E' 0=v0∧E' 1=v1∧E' 4=.pointer (some ⟨b+0,0,none⟩)∧E' 6=.int .i64 (top:Int)∧E' 7=.int .i64 (bot:Int)∧E' 8=.int .i64 (n:Int)∧E' 9=.int .i64 (i:Int)∧1≤i∧firstI (upR g h top n) 1 (n-1)=firstI (upR g h top n) i (n-i)) (fun i=>n-i) 1
   ⟨rfl,r0,r1,r4,r6,r7,r8,r9,zA4 _,rfl⟩ ?_
  clear r0 r1 r4 r6 r7 r8 r9
  rintro i E H' ⟨hH,q0,q1,q4,q6,q7,q8,q9,hi1,hs⟩
  rw[hH]
  by_cases hin:i<n
  case neg =>
   have hc:decide ((i:Int)<(n:Int))=false:=decide_eq_false (by omega)
   simp (maxDischargeDepth:=6) only[q0,q1,q4,q6,q7,q8,q9,hc,ruW,putL,Nat.reduceLeDiff,xF,ruU,entryE,Nat.reduceLT,Nat.reduceAdd,Nat.reduceMul,Nat.reduceEqDiff]
   rw[show n-i=0 by omega,firstI]at hs
   exact joinR_normal ⟨rfl,by simp only[q0,ruU,entryE,Nat.reduceLT,Nat.reduceAdd,Nat.reduceMul,Nat.reduceEqDiff],by simp only[q1,ruU,entryE,Nat.reduceLT,Nat.reduceAdd,Nat.reduceMul,Nat.reduceEqDiff],by simp only[q4,ruU,entryE,Nat.reduceLT,Nat.reduceAdd,Nat.reduceMul,Nat.reduceEqDiff],by simp only[q6,ruU,entryE,Nat.reduceLT,Nat.reduceAdd,Nat.reduceMul,Nat.reduceEqDiff],by simp only[q7,ruU,entryE,Nat.reduceLT,Nat.reduceAdd,Nat.reduceMul,Nat.reduceEqDiff],by simp only[q8,ruU,entryE,Nat.reduceLT,Nat.reduceAdd,Nat.reduceMul,Nat.reduceEqDiff],hs⟩
  have hc:decide ((i:Int)<(n:Int))=true:=decide_eq_true (by omega)
  have w1:IntKind.i64.wrap ((top:Int)+(i:Int))=((top+i:Nat):Int):=(wrap_sm (by omega) (by omega)).trans (by omega)
  have w3:IntKind.i64.wrap ((bot:Int)-(i:Int))=((bot-i:Nat):Int):=(wrap_sm (by omega) (by omega)).trans (by omega)
  have hne1:h≠[]:=fun e=>by rw[e,zC3]at hble; omega
  have hne0:g≠[]:=fun e=>by rw[e,zC3]at hgh; omega
  have hfv1:∀ n∈idsV v1,(ext X0 []).get n≠none:=fun n hn=>((h1s.mod0 m0).ne hne1 n hn).1
  have hfv0:∀ n∈idsV v0,(ext X0 []).get n≠none:=fun n hn=>((h0s.mod0 m0).ne hne0 n hn).1
  rw[show n-i=(n-(i+1))+1 by omega,firstI]at hs
  obtain⟨u1,sl1,gs1,-,-⟩:=(h1s.mod0 m0).slice hne1 (x:=some (.int .i64 (top:Int))) (y:=some (.int .i64 ((bot-i:Nat):Int))) (lo:=top) (hi:=bot-i) (by simp[bound]) (by simp only[bound]; rw[if_pos (by omega),zE7]) (by omega) (by omega)
  obtain⟨u0,sl0,gs0,-,-⟩:=(h0s.mod0 m0).slice hne0 (x:=some (.int .i64 ((top+i:Nat):Int))) (y:=some (.int .i64 (bot:Int))) (lo:=top+i) (hi:=bot) (by simp only[bound]; rw[if_pos (by omega),zE7]) (by simp[bound]) (by omega) (by omega)
  obtain⟨F1,hF1,hG1⟩:=gs1.at_.foot (fun e=>by have:=congrArg List.length e; simp at this; omega)
  obtain⟨F0,hF0,hG0⟩:=gs0.at_.foot (fun e=>by have:=congrArg List.length e; simp at this; omega)
  have hdu:decide ((h.take (bot-i)).drop top=(g.take bot).drop (top+i))=upR g h top n i:=by
   unfold upR
   rw[List.drop_take,List.drop_take,show bot-i-top=n-i by omega,show bot-(top+i)=n-i by omega]
  simp (maxDischargeDepth:=6) only[q0,q1,q4,q6,q7,q8,q9,hc,w1,w3,wd_slice,ruW,putL,Nat.reduceLeDiff,xF,ruU,entryE,Nat.reduceLT,Nat.reduceAdd,Nat.reduceMul,Nat.reduceEqDiff]
  refine w_drawB [] [] (by kernel_rfl) rfl rfl fun ops anc hA hG=>?_
  simp (maxDischargeDepth:=6) only[q0,q1,q4,q6,q7,q8,q9,w1,w3,wd_slice,ruD,ruW,putL,Nat.reduceLeDiff,xF,ruU,entryE,Nat.reduceLT,Nat.reduceAdd,Nat.reduceMul,Nat.reduceEqDiff]
  refine genV_sl (v:=u1) (idsV v1) rfl rfl rfl rfl (zA9 rfl) hfv1 (fun G hG=>by simp only[q1,q6,bnds_none,bnds_some,ruU,entryE,Nat.reduceLT,Nat.reduceAdd,Nat.reduceMul,Nat.reduceEqDiff]; exact sl1 G hG) (by simp[Meets]) ?_
  simp (maxDischargeDepth:=6) only[q0,q1,q4,q6,q7,q8,q9,w1,w3,wd_slice,ruD,ruW,putL,Nat.reduceLeDiff,xF,ruU,entryE,Nat.reduceLT,Nat.reduceAdd,Nat.reduceMul,Nat.reduceEqDiff]
  refine genV_sl (v:=u0) (idsV v0) rfl rfl rfl rfl (zA9 rfl) hfv0 (fun G hG=>by simp only[q0,q7,bnds_none,bnds_some,ruU,entryE,Nat.reduceLT,Nat.reduceAdd,Nat.reduceMul,Nat.reduceEqDiff]; exact sl0 G hG) (by simp[Meets]) ?_
  simp (maxDischargeDepth:=6) only[q0,q1,q4,q6,q7,q8,q9,w1,w3,wd_slice,ruD,ruW,putL,Nat.reduceLeDiff,xF,ruU,entryE,Nat.reduceLT,Nat.reduceAdd,Nat.reduceMul,Nat.reduceEqDiff]
  refine genV_quiet (v:=.bool (upR g h top n i)) (F1++F0) (by simp only[ruU,entryE,Nat.reduceLT,Nat.reduceAdd,Nat.reduceMul,Nat.reduceEqDiff]) (by kernel_rfl) (by decide) (fun m hm=>?_) (fun G hn hg=>?_) (by simp[Meets]) ?_
  ·rcases zB5.1 hm with hm|hm
   ·exact (hF1 m hm).1
   ·exact (hF0 m hm).1
  ·simp only[ruU,entryE,Nat.reduceLT,Nat.reduceAdd,Nat.reduceMul,Nat.reduceEqDiff]
   rw[←hdu]
   exact same54_c G u1 u0 _ _ (hG1 G (zE9 hn.symm) fun m hm=>hg m (zE4 _ hm)).1 (hG0 G (zE9 hn.symm) fun m hm=>hg m (zE2 _ hm)).1 (fun l hl=>hwh l (zE5 (zE6 hl))) (by simp; omega)
  cases hu:upR g h top n i with
  |false =>
   rw[hu]at hs
   simp only[zC2,if_false]at hs
   simp (maxDischargeDepth:=6) only[q0,q1,q4,q6,q7,q8,q9,hu,wrap_succ (show i<1000000 by omega),ruD,ruW,putL,Nat.reduceLeDiff,xF,ruU,entryE,Nat.reduceLT,Nat.reduceAdd,Nat.reduceMul,Nat.reduceEqDiff]
   refine loopC_next ⟨i+1,by omega,rfl,?_,?_,?_,?_,?_,?_,?_,by omega,hs⟩<;>simp only[q0,q1,q4,q6,q7,q8,q9,ruU,entryE,Nat.reduceLT,Nat.reduceAdd,Nat.reduceMul,Nat.reduceEqDiff]
  |true =>
   rw[hu,if_pos rfl]at hs
   have wb:IntKind.i64.wrap ((bot:Int)-1)=(bot:Int)-1:=wrap_sm (by omega) (by omega)
   rw[hsh,hs]
   simp (maxDischargeDepth:=6) only[q0,q1,q4,q6,q7,q8,q9,hu,n0,kz,lz,wb,joinR_ret,Tryd.results36,ruD,ruW,putL,Nat.reduceLeDiff,xF,ruU,entryE,Nat.reduceLT,Nat.reduceAdd,Nat.reduceMul,Nat.reduceEqDiff]
   exact Ax.Fin.mod rfl (hfin _) rfl
 rintro E H' ⟨hH,q0,q1,q4,q6,q7,q8,hup⟩
 rw[hH]
 rw[hup]at hsh
 simp only at hsh
 simp (maxDischargeDepth:=6) only[q0,q1,q4,q6,q7,q8,ruW,putL,Nat.reduceLeDiff,xF,ruU,entryE,Nat.reduceLT,Nat.reduceAdd,Nat.reduceMul,Nat.reduceEqDiff]
 refine w_env fun E' hE=>?_
 have r0:E' 0=v0:=by rw[hE]; simp only[q0,ruU,entryE,Nat.reduceLT,Nat.reduceAdd,Nat.reduceMul,Nat.reduceEqDiff]
 have r1:E' 1=v1:=by rw[hE]; simp only[q1,ruU,entryE,Nat.reduceLT,Nat.reduceAdd,Nat.reduceMul,Nat.reduceEqDiff]
 have r4:E' 4=.pointer (some ⟨b+0,0,none⟩):=by rw[hE]; simp only[q4,ruU,entryE,Nat.reduceLT,Nat.reduceAdd,Nat.reduceMul,Nat.reduceEqDiff]
 have r6:E' 6=.int .i64 (top:Int):=by rw[hE]; simp only[q6,ruU,entryE,Nat.reduceLT,Nat.reduceAdd,Nat.reduceMul,Nat.reduceEqDiff]
 have r7:E' 7=.int .i64 (bot:Int):=by rw[hE]; simp only[q7,ruU,entryE,Nat.reduceLT,Nat.reduceAdd,Nat.reduceMul,Nat.reduceEqDiff]
 have r8:E' 8=.int .i64 (n:Int):=by rw[hE]; simp only[q8,ruU,entryE,Nat.reduceLT,Nat.reduceAdd,Nat.reduceMul,Nat.reduceEqDiff]
 have r10:E' 10=.int .i64 ((1:Nat):Int):=by rw[hE]; (simp only[ruU,entryE,Nat.reduceLT,Nat.reduceAdd,Nat.reduceMul,Nat.reduceEqDiff]<;>rfl)
 clear hE q0 q1 q4 q6 q7 q8
 clear E
 refine blockC_meet (fun E' H'=>H'=ext X0 []∧E' 4=.pointer (some ⟨b+0,0,none⟩)∧firstI (dnR g h top n) 1 (n-1)=none) ?_ ?_
 ·refine w_loop (fun (i:Nat) E' H'=>H'=ext X0 []∧E' 0=v0∧E' 1=v1∧E' 4=.pointer (some ⟨b+0,0,none⟩)∧E' 6=.int .i64 (top:Int)∧E' 7=.int .i64 (bot:Int)∧E' 8=.int .i64 (n:Int)∧E' 10=.int .i64 (i:Int)∧1≤i∧firstI (dnR g h top n) 1 (n-1)=firstI (dnR g h top n) i (n-i)) (fun i=>n-i) 1
   ⟨rfl,r0,r1,r4,r6,r7,r8,r10,zA4 _,rfl⟩ ?_
  clear r0 r1 r4 r6 r7 r8 r10
  rintro i E H' ⟨hH,q0,q1,q4,q6,q7,q8,q10,hi1,hs⟩
  rw[hH]
  by_cases hin:i<n
  case neg =>
   have hc:decide ((i:Int)<(n:Int))=false:=decide_eq_false (by omega)
   simp (maxDischargeDepth:=6) only[q0,q1,q4,q6,q7,q8,q10,hc,ruW,putL,Nat.reduceLeDiff,xF,ruU,entryE,Nat.reduceLT,Nat.reduceAdd,Nat.reduceMul,Nat.reduceEqDiff]
   rw[show n-i=0 by omega,firstI]at hs
   exact joinR_normal ⟨rfl,by simp only[q4,ruU,entryE,Nat.reduceLT,Nat.reduceAdd,Nat.reduceMul,Nat.reduceEqDiff],hs⟩
  have hc:decide ((i:Int)<(n:Int))=true:=decide_eq_true (by omega)
  have w1:IntKind.i64.wrap ((top:Int)+(i:Int))=((top+i:Nat):Int):=(wrap_sm (by omega) (by omega)).trans (by omega)
  have w3:IntKind.i64.wrap ((bot:Int)-(i:Int))=((bot-i:Nat):Int):=(wrap_sm (by omega) (by omega)).trans (by omega)
  have hne1:h≠[]:=fun e=>by rw[e,zC3]at hble; omega
  have hne0:g≠[]:=fun e=>by rw[e,zC3]at hgh; omega
  have hfv1:∀ n∈idsV v1,(ext X0 []).get n≠none:=fun n hn=>((h1s.mod0 m0).ne hne1 n hn).1
  have hfv0:∀ n∈idsV v0,(ext X0 []).get n≠none:=fun n hn=>((h0s.mod0 m0).ne hne0 n hn).1
  rw[show n-i=(n-(i+1))+1 by omega,firstI]at hs
  obtain⟨u1,sl1,gs1,-,-⟩:=(h1s.mod0 m0).slice hne1 (x:=some (.int .i64 ((top+i:Nat):Int))) (y:=some (.int .i64 (bot:Int))) (lo:=top+i) (hi:=bot) (by simp only[bound]; rw[if_pos (by omega),zE7]) (by simp[bound]) (by omega) (by omega)
  obtain⟨u0,sl0,gs0,-,-⟩:=(h0s.mod0 m0).slice hne0 (x:=some (.int .i64 (top:Int))) (y:=some (.int .i64 ((bot-i:Nat):Int))) (lo:=top) (hi:=bot-i) (by simp[bound]) (by simp only[bound]; rw[if_pos (by omega),zE7]) (by omega) (by omega)
  obtain⟨F1,hF1,hG1⟩:=gs1.at_.foot (fun e=>by have:=congrArg List.length e; simp at this; omega)
  obtain⟨F0,hF0,hG0⟩:=gs0.at_.foot (fun e=>by have:=congrArg List.length e; simp at this; omega)
  have hdu:decide ((h.take bot).drop (top+i)=(g.take (bot-i)).drop top)=dnR g h top n i:=by
   unfold dnR
   rw[List.drop_take,List.drop_take,show bot-i-top=n-i by omega,show bot-(top+i)=n-i by omega]
  simp (maxDischargeDepth:=6) only[q0,q1,q4,q6,q7,q8,q10,hc,w1,w3,wd_slice,ruW,putL,Nat.reduceLeDiff,xF,ruU,entryE,Nat.reduceLT,Nat.reduceAdd,Nat.reduceMul,Nat.reduceEqDiff]
  refine w_drawB [] [] (by kernel_rfl) rfl rfl fun ops anc hA hG=>?_
  simp (maxDischargeDepth:=6) only[q0,q1,q4,q6,q7,q8,q10,w1,w3,wd_slice,ruD,ruW,putL,Nat.reduceLeDiff,xF,ruU,entryE,Nat.reduceLT,Nat.reduceAdd,Nat.reduceMul,Nat.reduceEqDiff]
  refine genV_sl (v:=u1) (idsV v1) rfl rfl rfl rfl (zA9 rfl) hfv1 (fun G hG=>by simp only[q1,q7,bnds_none,bnds_some,ruU,entryE,Nat.reduceLT,Nat.reduceAdd,Nat.reduceMul,Nat.reduceEqDiff]; exact sl1 G hG) (by simp[Meets]) ?_
  simp (maxDischargeDepth:=6) only[q0,q1,q4,q6,q7,q8,q10,w1,w3,wd_slice,ruD,ruW,putL,Nat.reduceLeDiff,xF,ruU,entryE,Nat.reduceLT,Nat.reduceAdd,Nat.reduceMul,Nat.reduceEqDiff]
  refine genV_sl (v:=u0) (idsV v0) rfl rfl rfl rfl (zA9 rfl) hfv0 (fun G hG=>by simp only[q0,q6,bnds_none,bnds_some,ruU,entryE,Nat.reduceLT,Nat.reduceAdd,Nat.reduceMul,Nat.reduceEqDiff]; exact sl0 G hG) (by simp[Meets]) ?_
  simp (maxDischargeDepth:=6) only[q0,q1,q4,q6,q7,q8,q10,w1,w3,wd_slice,ruD,ruW,putL,Nat.reduceLeDiff,xF,ruU,entryE,Nat.reduceLT,Nat.reduceAdd,Nat.reduceMul,Nat.reduceEqDiff]
  refine genV_quiet (v:=.bool (dnR g h top n i)) (F1++F0) (by simp only[ruU,entryE,Nat.reduceLT,Nat.reduceAdd,Nat.reduceMul,Nat.reduceEqDiff]) (by kernel_rfl) (by decide) (fun m hm=>?_) (fun G hn hg=>?_) (by simp[Meets]) ?_
  ·rcases zB5.1 hm with hm|hm
   ·exact (hF1 m hm).1
   ·exact (hF0 m hm).1
  ·simp only[ruU,entryE,Nat.reduceLT,Nat.reduceAdd,Nat.reduceMul,Nat.reduceEqDiff]
   rw[←hdu]
   exact same54_c G u1 u0 _ _ (hG1 G (zE9 hn.symm) fun m hm=>hg m (zE4 _ hm)).1 (hG0 G (zE9 hn.symm) fun m hm=>hg m (zE2 _ hm)).1 (fun l hl=>hwh l (zE5 (zE6 hl))) (by simp; omega)
  cases hu:dnR g h top n i with
  |false =>
   rw[hu]at hs
   simp only[zC2,if_false]at hs
   simp (maxDischargeDepth:=6) only[q0,q1,q4,q6,q7,q8,q10,hu,wrap_succ (show i<1000000 by omega),ruD,ruW,putL,Nat.reduceLeDiff,xF,ruU,entryE,Nat.reduceLT,Nat.reduceAdd,Nat.reduceMul,Nat.reduceEqDiff]
   refine loopC_next ⟨i+1,by omega,rfl,?_,?_,?_,?_,?_,?_,?_,by omega,hs⟩<;>simp only[q0,q1,q4,q6,q7,q8,q10,ruU,entryE,Nat.reduceLT,Nat.reduceAdd,Nat.reduceMul,Nat.reduceEqDiff]
  |true =>
   rw[hu,if_pos rfl]at hs
   have wb:IntKind.i64.wrap ((bot:Int)-1)=(bot:Int)-1:=wrap_sm (by omega) (by omega)
   rw[hsh,hs]
   simp (maxDischargeDepth:=6) only[q0,q1,q4,q6,q7,q8,q10,hu,n0,kz,lz,wb,joinR_ret,Tryd.results36,ruD,ruW,putL,Nat.reduceLeDiff,xF,ruU,entryE,Nat.reduceLT,Nat.reduceAdd,Nat.reduceMul,Nat.reduceEqDiff]
   exact Ax.Fin.mod rfl (hfin _) rfl
 rintro E H' ⟨hH,q4,hdn⟩
 rw[hH]
 rw[hdn]at hsh
 replace hsh:shiftR g h=none:=hsh
 rw[hsh]
 have hbz:aBuild Tryd.prog 47 []=some (.agg #[.int .i64 0,.int .i64 0,.int .i64 0,.int .i64 0,.int .i64 0,.int .i64 0,.bool false,.bool false,.bool false,.string .empty]):=by kernel_rfl
 simp (maxDischargeDepth:=6) only[q4,hbz,n0,kz,lz,Tryd.results36,ruW,putL,Nat.reduceLeDiff,xF,ruU,entryE,Nat.reduceLT,Nat.reduceAdd,Nat.reduceMul,Nat.reduceEqDiff]
 exact Ax.Fin.mod rfl (hfin _) rfl
theorem wholeB_isR:∀ (n:Nat) (l:List Ce),l.length≤n→wholeB l=true→∀ c∈l,c.rune≠-1→isR c.rune=true
 |_,[],_,_,c,hc,_=>by cases hc
 |0,_::_,hn,_,_,_,_=>by simp at hn
 |n+1,x::l,hn,h,c,hc,hr=>by
  rw[wholeB_cons]at h
  split at h
  ·cases h
  rename_i h0
  simp only[Bool.or_eq_true,decide_eq_true_eq,not_or]at h0
  have hx:isR x.rune=true:=by
   have h1:=h0.1
   unfold cellsR at h1
   split at h1
   ·exact absurd rfl h1
   ·rename_i h2
    simp only[Bool.or_eq_true,Bool.not_eq_true',not_or]at h2
    simpa using h2.2
  simp only[zB4]at hn
  rcases zB1.1 hc with rfl|hc
  ·exact hx
  split at h
  ·cases l with
   |nil=>cases hc
   |cons d l' =>
    simp only[zA5,decide_eq_true_eq]at h
    rcases zB1.1 hc with rfl|hc
    ·exact absurd (by rw[h.1]; rfl) hr
    ·exact wholeB_isR n l' (by simp at hn; omega) h.2 c hc hr
  ·exact wholeB_isR n l (by omega) h c hc hr
theorem chk_isR {g:List (List Ce)} {r c:Int} (h:chkR g r c=0):∀ l∈g,∀ q∈l,q.rune≠-1→isR q.rune=true:=by
 unfold chkR at h
 intro l hl
 have h3:okGrid (widG g) g=true:=by
  revert h
  cases (decide ((g.length:Int)<1)||decide (200<(g.length:Int))) with
  |true=>intro h; rw[cond_true]at h; omega
  |false =>
   rw[cond_false]
   generalize (decide ((widG g:Int)<1)||decide (1000<(widG g:Int))||_)=d
   cases d with
   |true=>intro h; rw[cond_true]at h; omega
   |false =>
    rw[cond_false]
    cases okGrid (widG g) g with
    |false=>intro h; rw[cond_false]at h; omega
    |true=>intro _; rfl
 have:=zC0.1 h3 l hl
 unfold okRow at this
 simp only[zA5]at this
 exact wholeB_isR _ l (zA4 _) this.2
theorem shift_some {g h:List (List Ce)} {x:Op} (e:shiftR g h=some x) (hl:g.length=h.length):∃ (t b i:Nat) (k:Int),x=rollOp k t b i∧(k=5∨k=6)∧1≤i∧t+i<b∧b≤g.length:=by
 have h1:=preR_le g h
 have h2:=sufR_le g h (preR g h) h.length
 unfold shiftR at e
 simp only at e
 split at e
 ·rename_i i hi
  have:=firstI_some _ _ _ hi
  cases e
  exact⟨_,_,i,5,rfl,.inl rfl,this.1,by omega,by omega⟩
 ·cases hf:firstI (dnR g h (preR g h) (sufR g h (preR g h) h.length-preR g h)) 1 (sufR g h (preR g h) h.length-preR g h-1) with
  |none=>rw[hf]at e; cases e
  |some i =>
   rw[hf]at e
   have:=firstI_some _ _ _ hf
   cases e
   exact⟨_,_,i,6,rfl,.inr rfl,this.1,by omega,by omega⟩
theorem shift_does {g h:List (List Ce)} {x:Op} {r c:Int} (e:shiftR g h=some x) (hl:g.length=h.length) (hc:chkR g r c=0) :
  ∃ y:St,St.all (widG g) ptsR [x] 0 (St.start g r c)=.inl y∧(appV g r c [x]).1=y.grid∧y.grid.length=g.length∧∀ l∈y.grid,l.length=widG g:=by
 obtain⟨ok,_⟩:=chk_ok hc
 obtain⟨t,b,i,k,rfl,hk,hi,hti,hb⟩:=shift_some e hl
 have hd:∃ y:St,(St.start g r c).does (widG g) ptsR (rollOp k t b i)=some y∧y.grid.length=g.length:=by
  have h1:(rollOp k t b i).kind=k:=rfl
  have hcond:(decide (0≤(rollOp k t b i).row)&&decide ((rollOp k t b i).row≤(rollOp k t b i).col)&&decide ((rollOp k t b i).col<(St.start g r c).grid.length)&&decide (1≤(rollOp k t b i).n)&&decide ((rollOp k t b i).n≤(rollOp k t b i).col-(rollOp k t b i).row+1))=true:=by
   simp only[rollOp,St.start,zA5,decide_eq_true_eq]
   have:(b:Int)≤(g.length:Int):=by omega
   refine⟨⟨⟨⟨?_,?_⟩,?_⟩,?_⟩,?_⟩
   all_goals (apply decide_eq_true; omega)
  refine⟨{St.start g r c with grid:=rollR (widG g) g t (b-1) i (decide (k=5))},?_,?_⟩
  ·unfold St.does
   rw[h1,if_neg (by omega),if_neg (by omega),if_neg (by omega),if_neg (by omega),if_pos hk,if_pos hcond]
   simp only[rollOp,St.start,zE7]
   rw[show ((b:Int)-1).toNat=b-1 by omega]
  ·show (rollR _ _ _ _ _ _).length=_
   unfold rollR
   simp only[zB7,zD9,zC5]
   split<;>simp only[zB7,zD9,zC5,List.length_replicate]<;>omega
 obtain⟨y,hy,hgl⟩:=hd
 have hall:St.all (widG g) ptsR [rollOp k t b i] 0 (St.start g r c)=.inl y:=by simp only[St.all,hy]
 have oky:=all_ok _ 0 _ y ok hall
 refine⟨y,hall,?_,hgl,oky.wid⟩
 unfold appV
 rw[if_pos hc,hall]
theorem nowR_len {g h:List (List Ce)} {r c:Int} (hl:g.length=h.length) (hc:chkR g r c=0):(nowR g h r c).length=g.length∧∀ l∈nowR g h r c,l.length=widG g:=by
 unfold nowR
 split
 ·rename_i x hx
  obtain⟨y,_,e,h1,h2⟩:=shift_does hx hl hc
  rw[e]
  exact⟨h1,h2⟩
 ·obtain⟨ok,_⟩:=chk_ok hc
  exact⟨rfl,ok.wid⟩
def GridR (H:AHeap) (v:Value) (g:List (List Ce)):Prop :=
 ∃ n off s c e o L,v=.slice (some ⟨n,off,s⟩) g.length c∧rk H n=some ⟨e,o,L⟩∧n<H.next∧off+g.length≤L.length∧∀ (k:Nat) (row:List Ce),g[k]?=some row→∃ rv,L[off+k]?=some rv∧RowS H rv row
section
variable {H G : AHeap} {v : Value} {g : List (List Ce)}
theorem GridS.r (h:GridS H v g) (hne:g≠[]):GridR H v g:=by
 rcases h with h|⟨h0,rvs,hl,⟨n,off,s,c,e,o,M,rfl,h1,h2,h3,h4,h5⟩,hr⟩
 ·exact absurd h.1 hne
 ·refine⟨n,off,s,_,e,o,M,rfl,h2,h3,by omega,fun k row hk=>?_⟩
  obtain⟨rv,h6,h7⟩:=hr k row hk
  refine⟨rv,?_,h7⟩
  rw[←h5,List.getElem?_take,if_pos (by have:=(zD4.1 hk).1; omega),List.getElem?_drop]at h6
  exact h6
end
def GridF (N:Nat) (F:List Nat) (H:AHeap) (v:Value) (g:List (List Ce)):Prop :=
 ∃ n off s c e o L,v=.slice (some ⟨n,off,s⟩) g.length c∧rk H n=some ⟨e,o,L⟩∧n<H.next∧(n<N∨n∈F)∧off+g.length≤L.length∧∀ (k:Nat) (row:List Ce),g[k]?=some row→∃ rv,L[off+k]?=some rv∧RowS H rv row∧(row≠[]→∀ q∈idsV rv,q<N∨q∈F)
section
variable {N M : Nat} {F F' : List Nat} {H X : AHeap} {v : Value} {g : List (List Ce)}
theorem GridF.mod0 (h:GridF N F H v g) (m:Mod [] H X):GridF N F X v g:=by
 obtain⟨n,off,s,c,e,o,L,rfl,hb,hn,hi,hle,hr⟩:=h
 exact⟨n,off,s,c,e,o,L,rfl,(rk_get (m.get n hn (by simp))).trans hb,m.lt hn,hi,hle,fun k row hk=>let ⟨rv,h1,h2,h3⟩:=hr k row hk; ⟨rv,h1,h2.mod0 m,h3⟩⟩
theorem GridF.kp (h:GridF N F H v g) (m:KpN N F H X) (hne:∀ l∈g,l≠[]):GridF N F X v g:=by
 obtain⟨n,off,s,c,e,o,L,rfl,hb,hn,hi,hle,hr⟩:=h
 have:=m.next
 refine⟨n,off,s,c,e,o,L,rfl,(rk_get (m.get hn hi)).trans hb,by omega,hi,hle,fun k row hk=>?_⟩
 obtain⟨rv,h1,h2,h3⟩:=hr k row hk
 have h0:=hne row (zC1 hk)
 exact⟨rv,h1,h2.kp m (h3 h0),h3⟩
theorem GridR.f (h:GridR H v g) (hN:H.next≤N):GridF N F H v g:=by
 obtain⟨n,off,s,c,e,o,L,rfl,hb,hn,hle,hr⟩:=h
 refine⟨n,off,s,c,e,o,L,rfl,hb,hn,.inl (by omega),hle,fun k row hk=>?_⟩
 obtain⟨rv,h1,h2⟩:=hr k row hk
 refine⟨rv,h1,h2,fun h0 q hq=>.inl ?_⟩
 rcases h2 with⟨h,_⟩|⟨_,h⟩
 ·exact absurd h h0
 ·have:=(h.ne q hq).2; omega
theorem OwnG.f {rvs:List Value} (o:OwnG M H v rvs g) (hne:g≠[]) (hF:∀ n∈idsV v++rvs.flatMap idsV,n∈F):GridF N F H v g:=by
 rcases o.at_ with⟨h,_⟩|⟨m,s,c,q,rfl,hb,h1,h2,h3⟩
 ·exact absurd h hne
 have hlen:=o.len
 refine⟨m,0,s,c,_,q,rvs,rfl,rk_of hb,h2,.inr (hF m (zE4 _ (by simp[idsV]))),by omega,fun k row hk=>?_⟩
 have hlt:=(zD4.1 hk).1
 refine⟨rvs[k]'(by omega),?_,(o.row k _ row (zA6 (by omega)) hk).rowS,fun _ q hq=>.inr (hF q (zE2 _ (zC6.2 ⟨_,List.getElem_mem (by omega),hq⟩)))⟩
 rw[zB6]
 exact zA6 (by omega)
end
theorem piecesR_len (row:Nat) (a b:List Ce) (e:Nat) (he:e≤b.length):∀ (f i:Nat) (p:Lk),i≤b.length→(piecesR row a b e f i p).1.length≤3*(b.length-i)
 |0,i,p,_=>zB2 _
 |f+1,i,p,hi=>by
  have h1:=pieceR_ge a b i e
  have h2:=pieceR_le a b i e he hi
  rw[piecesR]
  split
  ·rename_i hst
   have h3:=runsR_len row (pieceR a b i e).1 ((b.take (pieceR a b i e).2).drop (pieceR a b i e).1) p
   have h4:((b.take (pieceR a b i e).2).drop (pieceR a b i e).1).length=(pieceR a b i e).2-(pieceR a b i e).1:=by simp; omega
   have h5:=piecesR_len row a b e he f (pieceR a b i e).2 (runsR row (pieceR a b i e).1 ((b.take (pieceR a b i e).2).drop (pieceR a b i e).1) p).2 h2
   simp only[zB7]
   omega
  ·exact zB2 _
theorem lineR_len (row:Nat) (a b:List Ce) (p:Lk):(lineR row a b p).1.length≤3*b.length+2:=by
 have h:=piecesR_len row a b (tailR b b.length) (tailR_le b b.length) (b.length+1) 0 p (zB2 _)
 simp only[lineR,zB7,endR]
 split<;>simp only[zC3,zB4]<;>omega
def opsV (g h:List (List Ce)) (r c r2 c2:Int):List Op × Int :=
 if chkR g r c≠0 then ([],chkR g r c) else if chkR h r2 c2≠0 then ([],chkR h r2 c2) else if g.length≠h.length∨widG g≠widG h then ([],3) else (opsR g h r c r2 c2,0)
theorem rowsR_step {i:Nat} {g h:List (List Ce)} {a b:List Ce} (p:Lk) (ha:g[i]?=some a) (hb:h[i]?=some b) :
  rowsR i (g.drop i) (h.drop i) p=if a=b then rowsR (i+1) (g.drop (i+1)) (h.drop (i+1)) p else (lineR i a b p).1++rowsR (i+1) (g.drop (i+1)) (h.drop (i+1)) (lineR i a b p).2:=by
 have h1:=(zD4.1 ha)
 have h2:=(zD4.1 hb)
 obtain⟨l1,e1⟩:=h1
 obtain⟨l2,e2⟩:=h2
 rw[zG2 l1,zG2 l2,e1,e2,rowsR]
theorem rowsR_end {i:Nat} {g h:List (List Ce)} (p:Lk) (hi:h.length≤i):rowsR i (g.drop i) (h.drop i) p=[]:=by
 rw[zE3 hi]
 cases g.drop i<;>rfl
theorem kind_s (N:Nat) (H:AHeap) (p W:Nat) (v:Value) (rvs:List Value) (x:St) (o:Op) (k f:Nat) (hk:o.kind=(k:Int)) (hf:kindF[k]?=some f) (a:StAt 76 N H p v rvs x) (sl:Slc v) (hok:H.base≤H.next) (ok:x.Ok W) (h56:o.kind=5∨o.kind=6) :
  CallA Tryd.prog f [.pointer (some ⟨p,0,none⟩),o.val] H (StepR 76 N p (x.does W ptsR o) H):=by
 rw[does_eq,hk]
 rw[hk]at h56
 match k,hf,h56 with
 |5,hf,_=>obtain rfl:=Option.some.inj hf; rw[if_neg (by decide),if_neg (by decide),if_neg (by decide),if_neg (by decide),if_pos (by decide)]; exact remove_c N H p W v rvs x o a sl hok ok
 |6,hf,_=>obtain rfl:=Option.some.inj hf; rw[if_neg (by decide),if_neg (by decide),if_neg (by decide),if_neg (by decide),if_neg (by decide),if_pos (by decide)]; exact insert_c N H p W v rvs x o a sl hok ok
 |0,_,h=>exact absurd h (by omega)
 |1,_,h=>exact absurd h (by omega)
 |2,_,h=>exact absurd h (by omega)
 |3,_,h=>exact absurd h (by omega)
 |4,_,h=>exact absurd h (by omega)
 |7,_,h=>exact absurd h (by omega)
 |8,_,h=>exact absurd h (by omega)
 |k+9,_,h=>exact absurd h (by omega)
theorem executed_s (N:Nat) (H:AHeap) (p W:Nat) (v ov:Value) (rvs:List Value) (x:St) (l:List Op) (hl:OpsAt H ov l) (hov:l≠[]→∀ n∈idsV ov,n<N) (a:StAt 76 N H p v rvs x) (sl:Slc v) (hNH:N≤H.next) (hok:H.base≤H.next) (ok:x.Ok W) (h56:∀ o∈l,o.kind=5∨o.kind=6) (hll:l.length≤10000) :
  CallA Tryd.prog 49 [.pointer (some ⟨p,0,none⟩),ov] H (AllR N p (St.all W ptsR l 0 x) H):=by
 obtain⟨b,hb⟩:∃ b,H.next=b:=⟨_,rfl⟩
 have hbb:H.base≤b:=hb▸hok
 obtain⟨ao,co,eo⟩:=hl.sl
 have hst:∀ (M:Nat) (l:List Value),l.length=9→stB Tryd.prog 102 M 0 (.agg ⟨kindsV⟩) (some ⟨102,false,l⟩)=some ⟨102,false,kindsV⟩:=fun M l h=>by
  have hv:(Value.agg ⟨kindsV⟩).cells.toList=kindsV:=rfl
  rw[stB_ok (by rw[hv]; kernel_rfl) (by rw[hv,h]; decide) (by rw[hv]; rfl) (by rw[hv]; rfl),hv,putL_head _ _ (by rw[h]; decide),zE3 (by rw[h]; decide),zC8]
 have hcl:(Value.agg ⟨kindsV⟩).cells.toList=kindsV:=rfl
 have hps:putL ([.nilFunc,.nilFunc,.nilFunc,.nilFunc,.nilFunc,.nilFunc,.nilFunc,.nilFunc,.nilFunc]:List Value) 0 kindsV=kindsV:=rfl
 refine callE_fn mixed Tryd.func49 rfl Tryd.ntmps49 (zA9 rfl) ?_
 rw[eo]
 simp (maxDischargeDepth:=6) only[w_defer,ruW,putL,Nat.reduceLeDiff,xF,ruU,entryE,Nat.reduceLT,Nat.reduceAdd,Nat.reduceMul,Nat.reduceEqDiff]
 refine (kinds_c (ext H [])).to ?_
 simp (maxDischargeDepth:=6) only[hb,hbb,hst,hcl,hps,ruW,putL,Nat.reduceLeDiff,xF,ruU,entryE,Nat.reduceLT,Nat.reduceAdd,Nat.reduceMul,Nat.reduceEqDiff]
 rw[←eo]
 refine w_env fun E hE=>?_
 have g0:E 0=.pointer (some ⟨p,0,none⟩):=by rw[hE]; simp only[ruU,entryE,Nat.reduceLT,Nat.reduceAdd,Nat.reduceMul,Nat.reduceEqDiff]
 have g4:E 4=.int .i64 ((0:Nat):Int):=by rw[hE]; (simp only[ruU,entryE,Nat.reduceLT,Nat.reduceAdd,Nat.reduceMul,Nat.reduceEqDiff]<;>rfl)
 have g5:E 5=.pointer (some ⟨b+0,0,none⟩):=by rw[hE]; simp only[ruU,entryE,Nat.reduceLT,Nat.reduceAdd,Nat.reduceMul,Nat.reduceEqDiff]
 have g9:E 9=ov:=by rw[hE,eo]; simp only[ruU,entryE,Nat.reduceLT,Nat.reduceAdd,Nat.reduceMul,Nat.reduceEqDiff]
 have g10:E 10=.int .i64 (l.length:Int):=by rw[hE]; simp only[ruU,entryE,Nat.reduceLT,Nat.reduceAdd,Nat.reduceMul,Nat.reduceEqDiff]
 have g11:E 11=.int .i64 ((0:Nat):Int):=by rw[hE]; (simp only[ruU,entryE,Nat.reduceLT,Nat.reduceAdd,Nat.reduceMul,Nat.reduceEqDiff]<;>rfl)
 clear hE
 obtain⟨X,hX⟩:∃ X,ext H [⟨102,false,kindsV⟩]=X:=⟨_,rfl⟩
 have mX:Mod [] H X:=hX▸Mod.ext hok
 have kX:bk X (b+0)=some ⟨102,false,kindsV⟩:=by rw[←hX,bk_at hb (by simp)]; rfl
 have nX:X.next=b+1:=by rw[←hX,ext_next,hb]; rfl
 have okX:=mX.ok hok
 have aX:=a.mod0 mX
 rw[hX]
 rw[show X=ext X [] from rfl]
 have mXN:ModN N H X:=ModN.of (Ws:=[]) mX (by simp)
 have fin:∀ (Y:AHeap) (E:Env) (i:Nat),ModN N X Y→E 4=.int .i64 (i:Int)→St.all W ptsR l 0 x=.inr i→leaveA Tryd.prog Tryd.f49 (mkA 34 E [⟨.fn (.func 68) #[],⟨[]⟩⟩]) [⟨.fn (.func 68) #[],⟨[]⟩⟩] (.panicking [refusedP]) Y (AllR N p (St.all W ptsR l 0 x) H):=fun Y E i mY e4 hr=>by
  refine leave_pan (mY.ok okX) (fun j hj=>?_) (by decide)
  rw[e4]at hj
  subst hj
  rw[hr]
  exact⟨(mXN.trans mY).trans (ModN.of (Ws:=[]) (Mod.ext (mY.ok okX)) (by simp)),rfl⟩
 refine blockC_meet (fun E' Y=>ModN N X Y∧∃ y v rvs,St.all W ptsR l 0 x=.inl y∧Slc v∧StAt 76 N Y p v rvs y) ?_ ?_
 ·refine w_loop (fun (q:Nat × St × Value × List Value) E' Y=>ModN N X Y∧E' 0=.pointer (some ⟨p,0,none⟩)∧E' 5=.pointer (some ⟨b+0,0,none⟩)∧E' 9=ov∧E' 10=.int .i64 (l.length:Int)∧E' 11=.int .i64 (q.1:Int)∧q.1≤l.length∧St.all W ptsR (l.drop q.1) q.1 q.2.1=St.all W ptsR l 0 x∧q.2.1.Ok W∧Slc q.2.2.1∧StAt 76 N Y p q.2.2.1 q.2.2.2 q.2.1) (fun q=>l.length-q.1) (0,x,v,rvs)
   ⟨ModN.refl,g0,g5,g9,g10,g11,zB2 _,rfl,ok,sl,aX⟩ ?_
  clear g0 g4 g5 g9 g10 g11
  rintro⟨k,y,u,us⟩ E Y ⟨mY,g0,g5,g9,g10,g11,hk,hall,oky,slu,aY⟩
  simp only at g11 hk hall oky slu aY
  rw[show Y=ext Y [] from rfl]
  by_cases hkl:k=l.length
  ·have hc:decide ((k:Int)<(l.length:Int))=false:=by simp[hkl]
   simp (maxDischargeDepth:=6) only[g10,g11,hc,ruW,putL,Nat.reduceLeDiff,xF,ruU,entryE,Nat.reduceLT,Nat.reduceAdd,Nat.reduceMul,Nat.reduceEqDiff]
   rw[zE3 (by omega),St.all]at hall
   exact joinR_normal ⟨mY,y,u,us,hall.symm,slu,aY⟩
  ·have hlt:k<l.length:=by omega
   have hc:decide ((k:Int)<(l.length:Int))=true:=decide_eq_true (by omega)
   obtain⟨o,ho⟩:∃ o,l[k]?=some o:=⟨_,zA6 hlt⟩
   have okY:=mY.ok okX
   obtain⟨yn,hyn⟩:∃ n,Y.next=n:=⟨_,rfl⟩
   have hyb:Y.base≤yn:=hyn▸okY
   have hby:b+0<yn:=by have:=mY.next; omega
   have kY:bk Y (b+0)=some ⟨102,false,kindsV⟩:=mY.kinds (by omega) kX
   rcases hl with⟨h,_⟩|⟨hne,no,off,so,co',eo1,oo,L,eov,hrk,hno,hle,hop⟩
   ·rw[h]at hlt; simp at hlt
   have hnoN:no<N:=hov hne no (by rw[eov]; simp[idsV])
   have hnoY:rk Y no=some ⟨eo1,oo,L⟩:=by
    obtain⟨Ws,h1,m1⟩:=mXN.trans mY
    exact (rk_get (m1.get no hno fun h=>by have:=(h1 no h).1; omega)).trans hrk
   have hnoy:no<yn:=by have:=(mXN.trans mY).next; omega
   have ia:=op_ia (len:=l.length) (cap:=co') (n:=no) (off:=off) (s:=so) (i:=(k:Int)) rfl hlt
   have ld:=op_load (e:=eo1) (o:=oo) ho hle hop
   rw[eov]at g9
   simp (maxDischargeDepth:=6) only[g0,g5,g9,g10,g11,hc,hyn,hyb,hnoy,ia,hnoY,ld,qk_old,Op.val,Op.cells,ruW,putL,Nat.reduceLeDiff,xF,ruU,entryE,Nat.reduceLT,Nat.reduceAdd,Nat.reduceMul,Nat.reduceEqDiff]
   obtain⟨d1,h1⟩:∃ d,decide (0≤o.kind)=d:=⟨_,rfl⟩
   obtain⟨d2,h2⟩:∃ d,decide (o.kind<9)=d:=⟨_,rfl⟩
   have mB:Mod [] Y (ext Y [⟨47,false,o.cells⟩]):=Mod.ext okY
   have mBN:ModN N X (ext Y [⟨47,false,o.cells⟩]):=mY.trans (ModN.of (Ws:=[]) mB (by simp))
   by_cases hv:(d1&&d2)=true
   ·simp only[zA5]at hv
    obtain⟨rfl,rfl⟩:=hv
    have q1:=of_decide_eq_true h1
    have q2:=of_decide_eq_true h2
    obtain⟨j,hj⟩:∃ j:Nat,o.kind=j:=⟨o.kind.toNat,by omega⟩
    have hj9:j<9:=by omega
    obtain⟨f,hf⟩:∃ f,kindF[j]?=some f:=⟨_,zA6 (show j<9 from hj9)⟩
    have hbf:hasBody Tryd.prog f=true:=zC0.1 kindF_body f (zC1 hf)
    simp (maxDischargeDepth:=6) only[h1,h2,hyn,hyb,ruW,putL,Nat.reduceLeDiff,xF,ruU,entryE,Nat.reduceLT,Nat.reduceAdd,Nat.reduceMul,Nat.reduceEqDiff]
    refine CallS.to (needs_t _) ?_
    have ix:aIndexAddr Tryd.prog 102 (.pointer (some ⟨b+0,0,none⟩)) (.int .i64 (j:Int))=some (.pointer (some ⟨b+0,0+j,none⟩)):=by
     have hu:Tryd.prog.underlying 102=some (.array 9 101):=by kernel_rfl
     have hz:szOf Tryd.prog 101=some 1:=by kernel_rfl
     simp only[aIndexAddr,hu,hz,zA1,zA3]
     rw[if_pos ⟨by omega,by omega⟩]
     simp[Addr.add]
     omega
    have lk:ldB Tryd.prog 101 (0+j) (some ⟨102,false,kindsV⟩)=some (.func (.func f) ⟨[]⟩ ⟨[]⟩):=by
     rw[ld_one (by kernel_rfl),zB6]
     simp only[kindsV,List.getElem?_map,hf,zA7]
     rfl
    simp (maxDischargeDepth:=6) only[g0,g5,hyn,hj,ruW,putL,Nat.reduceLeDiff,xF,ruU,entryE,Nat.reduceLT,Nat.reduceAdd,Nat.reduceMul,Nat.reduceEqDiff]
    refine w_drawP [] [] (by kernel_rfl) (by kernel_rfl) rfl rfl (fun ops anc hA hG=>?_) (by simp) ⟨rfl,rfl⟩
    simp (maxDischargeDepth:=6) only[dropLast_more,dropLast_one,g0,g5,hyn,hby,kY,ix,lk,ruD,ruW,putL,Nat.reduceLeDiff,xF,ruU,entryE,Nat.reduceLT,Nat.reduceAdd,Nat.reduceMul,Nat.reduceEqDiff]
    simp only[lastO_cons,lastO_one,isDef_call,ff_eq,true_and]
    refine w_callV (f:=f) (ca:=[]) (by simp only[ruU,entryE,Nat.reduceLT,Nat.reduceAdd,Nat.reduceMul,Nat.reduceEqDiff]) (by simp only[ruU,entryE,Nat.reduceLT,Nat.reduceAdd,Nat.reduceMul,Nat.reduceEqDiff]) (by simp only[ruU,entryE,Nat.reduceLT,Nat.reduceAdd,Nat.reduceMul,Nat.reduceEqDiff]) hbf ?_
    simp only[ruU,entryE,Nat.reduceLT,Nat.reduceAdd,Nat.reduceMul,Nat.reduceEqDiff]
    rw[zC8]
    have aB:=aY.mod0 mB
    have key:=kind_s N (ext Y [⟨47,false,o.cells⟩]) p W u us y o j f hj hf aB slu (mB.ok okY) oky (h56 o (zC1 ho))
    simp only[Op.val,Op.cells,hj]at key
    refine key.mono ?_
    rintro out Z ⟨mZ,hr⟩
    replace mZ:ModN N (ext Y [⟨47,false,o.cells⟩]) Z:=by simp only[Op.cells,hj]; exact mZ
    have mZN:=mBN.trans mZ
    cases hd:y.does W ptsR o with
    |none =>
     rw[hd]at hr
     obtain rfl:=hr
     have hstop:=all_stop (W:=W) l k k y o ho hd
     rw[hstop]at hall
     simp only[opC_error,seqC_panic,blockC_panic,loopC_panic,joinR_panic,endA_panic]
     exact fin _ _ k mZN (by simp only[ruU,entryE,Nat.reduceLT,Nat.reduceAdd,Nat.reduceMul,Nat.reduceEqDiff]) hall.symm
    |some y2 =>
     rw[hd]at hr
     obtain⟨rfl,v2,us2,sl2,a2⟩:=hr
     rw[all_drop l k k y y2 o ho hd]at hall
     rw[show Z=ext Z [] from rfl]
     simp (maxDischargeDepth:=6) only[g11,wrap_succ (show k<1000000 by omega),ruW,putL,Nat.reduceLeDiff,xF,ruU,entryE,Nat.reduceLT,Nat.reduceAdd,Nat.reduceMul,Nat.reduceEqDiff]
     refine loopC_next ⟨(k+1,y2,v2,us2),by simp only; omega,mZN,?_,?_,?_,?_,?_,by simp only; omega,hall,does_ok oky hd,sl2,a2⟩
     ·simp only[g0,ruU,entryE,Nat.reduceLT,Nat.reduceAdd,Nat.reduceMul,Nat.reduceEqDiff]
     ·simp only[g5,ruU,entryE,Nat.reduceLT,Nat.reduceAdd,Nat.reduceMul,Nat.reduceEqDiff]
     ·simp only[g9,eov,ruU,entryE,Nat.reduceLT,Nat.reduceAdd,Nat.reduceMul,Nat.reduceEqDiff]
     ·simp only[g10,ruU,entryE,Nat.reduceLT,Nat.reduceAdd,Nat.reduceMul,Nat.reduceEqDiff]
     ·simp only[ruU,entryE,Nat.reduceLT,Nat.reduceAdd,Nat.reduceMul,Nat.reduceEqDiff]
   ·have hdn:y.does W ptsR o=none:=by
     rw[does_eq]
     have:o.kind<0∨9≤o.kind:=by
      cases d1 with
      |false=>have:=of_decide_eq_false h1; omega
      |true =>
       cases d2 with
       |false=>have:=of_decide_eq_false h2; omega
       |true=>exact absurd rfl hv
     rw[if_neg (by omega),if_neg (by omega),if_neg (by omega),if_neg (by omega),if_neg (by omega),if_neg (by omega),if_neg (by omega),if_neg (by omega)]
    have hstop:=all_stop (W:=W) l k k y o ho hdn
    rw[hstop]at hall
    have hs:d1=false∨(d1=true∧d2=false):=by cases d1<;>cases d2<;>simp_all
    rcases hs with rfl|⟨rfl,rfl⟩
    ·simp (maxDischargeDepth:=6) only[h1,ruW,putL,Nat.reduceLeDiff,xF,ruU,entryE,Nat.reduceLT,Nat.reduceAdd,Nat.reduceMul,Nat.reduceEqDiff]
     refine CallS.panics (needs_f _) ?_
     simp only[opC_error,seqC_panic,blockC_panic,loopC_panic,joinR_panic,endA_panic]
     exact fin _ _ k mBN (by simp only[ruU,entryE,Nat.reduceLT,Nat.reduceAdd,Nat.reduceMul,Nat.reduceEqDiff]) hall.symm
    ·simp (maxDischargeDepth:=6) only[h1,h2,hyn,hyb,ruW,putL,Nat.reduceLeDiff,xF,ruU,entryE,Nat.reduceLT,Nat.reduceAdd,Nat.reduceMul,Nat.reduceEqDiff]
     refine CallS.panics (needs_f _) ?_
     simp only[opC_error,seqC_panic,blockC_panic,loopC_panic,joinR_panic,endA_panic]
     exact fin _ _ k mBN (by simp only[ruU,entryE,Nat.reduceLT,Nat.reduceAdd,Nat.reduceMul,Nat.reduceEqDiff]) hall.symm
 ·rintro E Y ⟨mY,y,u,us,hall,slu,aY⟩
  rw[show Y=ext Y [] from rfl]
  simp (maxDischargeDepth:=6) only[ruW,putL,Nat.reduceLeDiff,xF,ruU,entryE,Nat.reduceLT,Nat.reduceAdd,Nat.reduceMul,Nat.reduceEqDiff]
  rw[hall]
  refine leave_ret (mY.ok okX) (fun i hi=>?_) (by decide)
  simp only[ruU,entryE,Nat.reduceLT,Nat.reduceAdd,Nat.reduceMul,Nat.reduceEqDiff]at hi
  subst hi
  exact⟨(mXN.trans mY).trans (ModN.of (Ws:=[]) (Mod.ext (mY.ok okX)) (by simp)),rfl,u,us,slu,aY.mod0 (Mod.ext (mY.ok okX))⟩
theorem apply_s (H:AHeap) (v ov:Value) (g:List (List Ce)) (r c:Int) (l:List Op) (hg:GridAt H v g) (hl:OpsAt H ov l) (hok:H.base≤H.next) (hs:scb H.next v=true) (hw:∀ l∈g,l.length≤10000) (hgl:g.length≤10000)
  (h56:∀ o∈l,o.kind=5∨o.kind=6) (hll:l.length≤10000) :
  CallA Tryd.prog 22 [.agg ⟨[v,.int .i64 r,.int .i64 c]⟩,ov] H (AppR H g r c l):=by
 obtain⟨b,hb⟩:∃ b,H.next=b:=⟨_,rfl⟩
 have hbb:H.base≤b:=hb▸hok
 obtain⟨a0,c0,e0⟩:=hg.sl
 rw[hb]at hs
 have hs':=hs
 rw[e0]at hs
 obtain⟨k,hk⟩:∃ k,chkR g r c=k:=⟨_,rfl⟩
 refine callE_fn mixed Tryd.func22 rfl Tryd.ntmps22 (zA9 rfl) ?_
 rw[e0]
 simp (maxDischargeDepth:=6) only[hb,hbb,hs,ruW,putL,Nat.reduceLeDiff,xF,ruU,entryE,Nat.reduceLT,Nat.reduceAdd,Nat.reduceMul,Nat.reduceEqDiff]
 rw[←e0]
 obtain⟨X,hX⟩:∃ X,ext H [⟨24,false,[v,.int .i64 r,.int .i64 c]⟩,⟨24,false,[.slice none 0 0,.int .i64 0,.int .i64 0]⟩]=X:=⟨_,rfl⟩
 have mX:Mod [] H X:=hX▸Mod.ext hok
 have nX:X.next=b+2:=by rw[←hX,ext_next,hb]; rfl
 have k0:bk X (b+0)=some ⟨24,false,[v,.int .i64 r,.int .i64 c]⟩:=by rw[←hX,bk_at hb (by simp)]; rfl
 have k1:bk X (b+1)=some ⟨24,false,[.slice none 0 0,.int .i64 0,.int .i64 0]⟩:=by rw[←hX,bk_at hb (by simp)]; rfl
 have okX:=mX.ok hok
 have gX:GridAt X v g:=hX▸hg.ext
 rw[hX]
 have hck:=check39_c X v g r c gX (fun l hl=>by have:=hw l hl; omega) (by omega)
 rw[hk]at hck
 rw[show X=ext X [] from rfl]
 refine hck.to ?_
 rw[show X=ext X [] from rfl]
 have l0:b+0<b+2:=by omega
 have l1:b+1<b+2:=by omega
 by_cases hk0:k=0
 ·have hd:decide (¬k=0)=false:=by simp[hk0]
  rw[hk0]at hk
  obtain⟨ok,hne,hgne⟩:=chk_ok hk
  obtain⟨W,hW⟩:∃ W,widG g=W:=⟨_,rfl⟩
  rw[hW]at ok
  obtain⟨F,hF,hFG⟩:=gX.foot hgne
  have hrn:=restrict_next X F
  obtain⟨gR,_⟩:=hFG (X.restrict F) (by rw[hrn.1]; exact zA4 _) (fun n hn=>by rw[restrict_get,if_pos hn])
  obtain⟨_,gg,hcc,u,rvs,rfl,gr,mg⟩:=clone39_c (X.restrict F) v g r c gR (by rw[hrn.1,hrn.2.1]; exact zA4 _) (by rw[hrn.1,nX]; exact scb_mono (by omega) _ hs') hne hw hgl
  rw[hrn.1]at gr
  simp (maxDischargeDepth:=6) only[hd,ruW,putL,Nat.reduceLeDiff,xF,ruU,entryE,Nat.reduceLT,Nat.reduceAdd,Nat.reduceMul,Nat.reduceEqDiff]
  refine w_drawB [(10,1),(11,10),(11,1),(12,11),(12,1)] [] (by kernel_rfl) (by kernel_rfl) rfl fun ops anc hA hG=>?_
  simp only[all2_cons]at hA
  simp (maxDischargeDepth:=6) only[nX,k0,l0,hA,ruD,ruW,putL,Nat.reduceLeDiff,xF,ruU,entryE,Nat.reduceLT,Nat.reduceAdd,Nat.reduceMul,Nat.reduceEqDiff]
  refine genV_mod (H:=ext X []) (W:=[]) F okX (by simp only[ruU,entryE,Nat.reduceLT,Nat.reduceAdd,Nat.reduceMul,Nat.reduceEqDiff]) (by kernel_rfl) (fun n hn=>(hF n hn).1) (fun n hn=>(hF n hn).2) (fun _ h=>by simp at h) (v:=.agg ⟨[u,.int .i64 r,.int .i64 c]⟩) (g:=gg) (by simp only[ruU,entryE,Nat.reduceLT,Nat.reduceAdd,Nat.reduceMul,Nat.reduceEqDiff]; exact hcc) mg (by simp only[all2_cons,all2_nil,hA,true_or,and_true]; simp) ?_
  intro Z D mZ hFZ hNZ hnZ hDZ
  have hD0:D=[]:=List.eq_nil_iff_forall_not_mem.2 (fun q hq=>by simpa using hDZ q hq)
  subst hD0
  replace mZ:Mod [] X Z:=mZ
  replace hNZ:∀ m,X.next≤m→m<gg.next→Z.get m=gg.get m:=hNZ
  have grZ:Grow (b+2) Z u rvs g:=by
   have:=gr.of (Y:=Z) (by omega) (fun n hn hm=>hNZ n (by
    rcases zB5.1 hm with hm|hm
    ·exact (gr.apart n hm).1
    ·exact (gr.ids n hm).1) hn)
   rw[nX]at this
   exact this
  obtain⟨au,eu⟩:=grZ.at_.len
  have hsu:=grZ.at_.sc
  have slu:Slc u:=by
   obtain⟨_,_,⟨h0,_⟩|⟨_,n,e,_⟩⟩:=grZ.at_
   ·exact absurd (List.length_eq_zero_iff.1 h0) hgne
   ·exact⟨n,_,e⟩
  have okZ:=mZ.ok okX
  obtain⟨zn,hzn⟩:∃ z,Z.next=z:=⟨_,rfl⟩
  have hzb:Z.base≤zn:=hzn▸okZ
  have hz2:b+2≤zn:=by have:=mZ.next; omega
  have kz0:bk Z (b+0)=_:=(mZ.bk (by omega) (by simp)).trans k0
  have kz1:bk Z (b+1)=_:=(mZ.bk (by omega) (by simp)).trans k1
  have hg2:gg.next=zn:=by omega
  have l0z:b+0<zn:=by omega
  rw[hzn]at hsu
  rw[eu]at hsu
  rw[show Z=ext Z [] from rfl,eu]
  simp (maxDischargeDepth:=6) only[hzn,hzb,kz0,l0z,hg2,hsu,nX,hA,ruD,ruW,putL,Nat.reduceLeDiff,xF,ruU,entryE,Nat.reduceLT,Nat.reduceAdd,Nat.reduceMul,Nat.reduceEqDiff]
  rw[←eu]
  obtain⟨Y1,hY1⟩:∃ Y1,ext Z [⟨76,false,(St.start g r c).cells u⟩]=Y1:=⟨_,rfl⟩
  have mY1:Mod [] Z Y1:=hY1▸Mod.ext okZ
  have nY1:Y1.next=zn+1:=by rw[←hY1,ext_next,hzn]; rfl
  have kp:bk Y1 (zn+0)=some ⟨76,false,(St.start g r c).cells u⟩:=by rw[←hY1,bk_at hzn (by simp)]; rfl
  have mHZ:Mod [] H Z:=mX.trans mZ
  have mHY:Mod [] H Y1:=mHZ.trans mY1
  have aY1:StAt 76 (b+2) Y1 (zn+0) u rvs (St.start g r c):=by
   have own:=grZ.own
   refine⟨kp,own.of mY1.next fun n h1 h2 h3=>mY1.get n h2 (by simp),fun h=>?_,by omega,by omega⟩
   rcases zB5.1 h with h|h
   ·have:=(own.idv _ h).2.1; omega
   ·have:=(own.ids _ h).2.1; omega
  have key:=executed_s (b+2) Y1 (zn+0) W u ov rvs (St.start g r c) l (hl.mod0 mHY) (fun h n hn=>by have:=hl.old h n hn; omega) aY1 slu (by omega) (mY1.ok okZ) ok h56 hll
  simp only[St.start,St.cells]at hY1
  rw[hY1]
  refine key.mono ?_
  rintro out Y ⟨mY,hr⟩
  have keep:∀ n,n<b+2→bk Y n=bk Y1 n:=fun n hn=>by
   obtain⟨Ws,h1,m1⟩:=mY
   exact m1.bk (by omega) fun h=>by have:=(h1 n h).1; omega
  have ky1:=(keep (b+1) (by omega)).trans ((mY1.bk (by omega) (by simp)).trans kz1)
  have mHYf:Mod [] H Y:=mY.mod mHY hok (by omega)
  have okY:=mY.ok (mY1.ok okZ)
  obtain⟨yn,hyn⟩:∃ n,Y.next=n:=⟨_,rfl⟩
  have hyb:Y.base≤yn:=hyn▸okY
  have hzy:zn+1≤yn:=by have:=mY.next; omega
  have l1y:b+1<yn:=by omega
  rw[show Y=ext Y [] from rfl]
  cases hall:St.all W ptsR l 0 (St.start g r c) with
  |inr i =>
   rw[hall]at hr
   obtain rfl:=hr
   have hdi:decide ((0:Int)≤(i:Int))=true:=decide_eq_true (by omega)
   simp (maxDischargeDepth:=6) only[hyn,ky1,l1y,hdi,Tryd.results22,ruW,putL,Nat.reduceLeDiff,xF,ruU,entryE,Nat.reduceLT,Nat.reduceAdd,Nat.reduceMul,Nat.reduceEqDiff]
   have mU:Mod [b+1] Y (uw Y (b+1) 0 [.slice none 0 0,.int .i64 0,.int .i64 0]):=Mod.uw (by simp)
   refine⟨mHYf.step mU hok (fun n hn=>.inr (by simp only[zA8]at hn; omega)),?_⟩
   rw[if_pos hk,hW,hall]
  |inl y =>
   rw[hall]at hr
   obtain⟨rfl,u2,rvs2,sl2,a2⟩:=hr
   have hdi:decide ((0:Int)≤-1)=false:=by decide
   have kpy:=a2.cell
   simp only[St.cells]at kpy
   have lpy:zn+0<yn:=by omega
   have oky:=all_ok l 0 _ y ok hall
   simp (maxDischargeDepth:=6) only[hyn,lpy,kpy,hdi,ruW,putL,Nat.reduceLeDiff,xF,ruU,entryE,Nat.reduceLT,Nat.reduceAdd,Nat.reduceMul,Nat.reduceEqDiff]
   obtain⟨a3,m3⟩:=a2.putU (y:={y with sr:=-1}) okY (off:=1) (vs:=[.int .i64 (-1)]) (L:=[]) rfl rfl
   obtain⟨a4,m4⟩:=a3.putU (y:={y with sr:=-1,sc:=0}) (m3.ok okY) (off:=2) (vs:=[.int .i64 0]) (L:=[]) rfl rfl
   have ok4:=m4.ok (m3.ok okY)
   have m34:Mod [zn+0] Y (ext (uw (uw Y (zn+0) 1 [.int .i64 (-1)]) (zn+0) 2 [.int .i64 0]) []):=m3.trans m4
   generalize hY4:ext (uw (uw Y (zn+0) 1 [.int .i64 (-1)]) (zn+0) 2 [.int .i64 0]) []=Y4 at a4 ok4 m34 ⊢
   replace a4:StAt 76 (b+2) Y4 (zn+0) u2 rvs2 {y with sr:=-1,sc:=0}:=hY4▸a4
   replace ok4:Y4.base≤Y4.next:=hY4▸ok4
   rw[show Y4=ext Y4 [] from rfl]
   refine condC_meet (fun E' Z2=>Mod [zn+0] Y Z2∧E' 4=.pointer (some ⟨b+1,0,none⟩)∧E' 8=.pointer (some ⟨zn+0,0,none⟩)∧StAt 76 (b+2) Z2 (zn+0) u2 rvs2 {y with sr:=y.atR,sc:=y.atC W}) ?_ ?_
   ·have oky4:St.Ok {y with sr:=-1,sc:=0} W:=⟨oky.h1,oky.h2,oky.w1,oky.w2,oky.wid,oky.row0,oky.row1,oky.col0,oky.col1⟩
    obtain⟨m,hml,hmp,⟨_,_,_,hmb⟩,hwd⟩:=dwidth_c a4 oky4
    have hFn:∀ n∈[zn+0,m],(ext Y4 []).get n≠none:=fun n hn=>by
     simp only[zB1,List.not_mem_nil,or_false]at hn
     rcases hn with rfl|rfl
     ·exact bk_ne a4.cell
     ·exact bk_ne hmb
    have n4:Y4.next=yn:=by rw[←hY4,ext_next,uw_next,uw_next,hyn]; rfl
    have k4:=a4.cell
    simp only[St.cells]at k4
    cases hsh:y.shown with
    |false =>
     have e1:y.atR=-1:=by simp[St.atR,hsh]
     have e2:y.atC W=0:=by simp[St.atC,hsh]
     rw[e1,e2]
     simp (maxDischargeDepth:=6) only[ruW,putL,Nat.reduceLeDiff,xF,ruU,entryE,Nat.reduceLT,Nat.reduceAdd,Nat.reduceMul,Nat.reduceEqDiff]
     rw[hsh]at a4
     exact joinR_normal ⟨m34,by simp only[ruU,entryE,Nat.reduceLT,Nat.reduceAdd,Nat.reduceMul,Nat.reduceEqDiff],by simp only[ruU,entryE,Nat.reduceLT,Nat.reduceAdd,Nat.reduceMul,Nat.reduceEqDiff],a4⟩
    |true =>
     have e1:y.atR=y.row:=by simp[St.atR,hsh]
     have e2:y.atC W=min y.col ((W:Int)-1):=by simp[St.atC,hsh]
     have hw1:IntKind.i64.wrap ((W:Int)-1)=(W:Int)-1:=wrap_sm (by have:=oky.w1; omega) (by have:=oky.w2; omega)
     rw[e1,e2]
     simp (maxDischargeDepth:=6) only[ruW,putL,Nat.reduceLeDiff,xF,ruU,entryE,Nat.reduceLT,Nat.reduceAdd,Nat.reduceMul,Nat.reduceEqDiff]
     refine w_drawB [(17,5),(17,9),(17,11),(21,17),(21,5),(21,9),(21,11)] [] (by kernel_rfl) (by kernel_rfl) rfl fun ops anc hA hG=>?_
     simp only[all2_cons]at hA
     simp (maxDischargeDepth:=6) only[n4,lpy,k4,hA,ruD,ruW,putL,Nat.reduceLeDiff,xF,ruU,entryE,Nat.reduceLT,Nat.reduceAdd,Nat.reduceMul,Nat.reduceEqDiff]
     refine genV_quiet (v:=.int .i64 W) [zn+0,m] rfl (by kernel_rfl) (zA9 rfl) hFn (fun G hn hg=>hwd G hn hg) (by simp[Meets]) ?_
     simp (maxDischargeDepth:=6) only[n4,lpy,k4,hw1,hA,ruD,ruW,putL,Nat.reduceLeDiff,xF,ruU,entryE,Nat.reduceLT,Nat.reduceAdd,Nat.reduceMul,Nat.reduceEqDiff]
     obtain⟨a5,m5⟩:=a4.putU (y:={y with sr:=y.row,sc:=0}) ok4 (off:=1) (vs:=[.int .i64 y.row]) (L:=[]) rfl rfl
     obtain⟨a6,m6⟩:=a5.putU (y:={y with sr:=y.row,sc:=min y.col ((W:Int)-1)}) (m5.ok ok4) (off:=2) (vs:=[.int .i64 (min y.col ((W:Int)-1))]) (L:=[]) rfl rfl
     rw[hsh]at a6
     exact joinR_normal ⟨m34.trans (m5.trans m6),by simp only[ruU,entryE,Nat.reduceLT,Nat.reduceAdd,Nat.reduceMul,Nat.reduceEqDiff],by simp only[ruU,entryE,Nat.reduceLT,Nat.reduceAdd,Nat.reduceMul,Nat.reduceEqDiff],a6⟩
   ·rintro E Z2 ⟨m2,e4,e8,a7⟩
    have okZ2:=m2.ok okY
    obtain⟨z2,hz2n⟩:∃ n,Z2.next=n:=⟨_,rfl⟩
    have hyz2:yn≤z2:=by have:=m2.next; omega
    have k7:=a7.cell
    simp only[St.cells]at k7
    have l7:zn+0<z2:=by omega
    have l8:b+1<z2:=by omega
    have k8:=(m2.bk (n:=b+1) (by omega) (by simp only[zA8]; omega)).trans ky1
    obtain⟨nu,hu,eu2⟩:=sl2
    have hnu:nu<z2:=by
     have:=(a7.own.idv nu (by rw[eu2]; simp[idsV])).2.1
     omega
    have hsu2:scb z2 u2=true:=by rw[eu2]; exact blt_of hnu
    rw[show Z2=ext Z2 [] from rfl]
    rw[eu2]at k7 hsu2
    simp (maxDischargeDepth:=6) only[e4,e8,hz2n,l7,l8,k7,k8,hsu2,Tryd.results22,ruW,putL,Nat.reduceLeDiff,xF,ruU,entryE,Nat.reduceLT,Nat.reduceAdd,Nat.reduceMul,Nat.reduceEqDiff]
    rw[←eu2]
    have mU:Mod [b+1] Z2 (uw Z2 (b+1) 0 [u2,.int .i64 y.atR,.int .i64 (y.atC W)]):=Mod.uw (by simp)
    have mHZ2:Mod [] H Z2:=mHYf.step m2 hok (fun n hn=>.inr (by simp only[zA8]at hn; omega))
    refine⟨mHZ2.step mU hok (fun n hn=>.inr (by simp only[zA8]at hn; omega)),?_⟩
    rw[if_pos hk,hW,hall]
    refine⟨u2,rvs2,b+2,rfl,by omega,a7.own.of mU.next fun n h1 h2 h3=>mU.get n h2 (by simp only[zA8]; omega)⟩
 ·have hd:decide (¬k=0)=true:=by simp[hk0]
  simp (maxDischargeDepth:=6) only[hd,nX,k0,k1,l0,l1,Tryd.results22,ruW,putL,Nat.reduceLeDiff,xF,ruU,entryE,Nat.reduceLT,Nat.reduceAdd,Nat.reduceMul,Nat.reduceEqDiff]
  have mU:Mod [b+1] X (uw X (b+1) 0 [.slice none 0 0,.int .i64 0,.int .i64 0]):=Mod.uw (by simp)
  refine⟨mX.step mU hok (fun n hn=>.inr (by simp only[zA8]at hn; omega)),?_⟩
  rw[if_neg (by rw[hk]; exact hk0),hk]
def OpsA (H:AHeap) (g h:List (List Ce)) (r c r2 c2:Int) (out:Out) (X:AHeap):Prop :=
 Mod [] H X∧∃ v',out=.ok (.tuple #[v',.int .i64 (opsV g h r c r2 c2).2])∧OpsW X v' (opsV g h r c r2 c2).1∧∀ n∈idsV v',H.next≤n
theorem opsV_1 {g h:List (List Ce)} {r c r2 c2:Int} (h1:¬chkR g r c=0):opsV g h r c r2 c2=([],chkR g r c):=by rw[opsV,if_pos h1]
theorem opsV_2 {g h:List (List Ce)} {r c r2 c2:Int} (h1:chkR g r c=0) (h2:¬chkR h r2 c2=0):opsV g h r c r2 c2=([],chkR h r2 c2):=by rw[opsV,if_neg (fun k=>k h1),if_pos h2]
theorem opsV_3 {g h:List (List Ce)} {r c r2 c2:Int} (h1:chkR g r c=0) (h2:chkR h r2 c2=0) (h3:g.length≠h.length∨widG g≠widG h):opsV g h r c r2 c2=([],3):=by rw[opsV,if_neg (fun k=>k h1),if_neg (fun k=>k h2),if_pos h3]
theorem opsV_4 {g h:List (List Ce)} {r c r2 c2:Int} (h1:chkR g r c=0) (h2:chkR h r2 c2=0) (h3:g.length=h.length) (h4:widG g=widG h):opsV g h r c r2 c2=(opsR g h r c r2 c2,0):=by
 rw[opsV,if_neg (fun k=>k h1),if_neg (fun k=>k h2),if_neg (fun k=>k.elim (fun k=>k h3) (fun k=>k h4))]
theorem OpsA.err {H X:AHeap} {g h:List (List Ce)} {r c r2 c2 e:Int} (m:Mod [] H X) (he:opsV g h r c r2 c2=([],e)):OpsA H g h r c r2 c2 (.ok (.tuple #[.slice none 0 0,.int .i64 e])) X :=
 ⟨m,.slice none 0 0,by rw[he],by rw[he]; exact OpsW.nil,fun n hn=>by simp[idsV]at hn⟩
theorem WrAt.low {N q:Nat} {F:List Nat} {H U:AHeap} {p:Nat} {v:Value} {l:List Op} {k:Lk} (a:WrAt N F H p v l k) (m:Mod [q] H U) (hq:q<N):WrAt N F U p v l k:=by
 have h1:=a.lo
 exact⟨(m.bk a.lt (by simp only[zA8]; omega)).trans a.cell,a.ops.of m.next fun n hn=>m.get n (a.ops.ne n hn).2 (by simp only[zA8]; have:=(a.ids n hn).1; omega),a.apart,m.lt a.lt,a.lo,a.pF,a.ids,fun n hn=>m.lt (a.fl n hn)⟩
theorem ia61 {x k:Nat} {i:Int} (hi:i=k) (hk:k<2):aIndexAddr Tryd.prog 61 (.slice (some ⟨x,0,some 0⟩) 2 2) (.int .i64 i)=some (.pointer (some ⟨x,0+k*3,none⟩)):=by
 subst hi
 rw[ia_slice (e:=24) (sz:=3) (by kernel_rfl) (by kernel_rfl) (by omega) (by omega)]
 simp
theorem ld61_0 {a b c d e f:Value}:ldB Tryd.prog 24 (0+0*3) (some ⟨24,false,[a,b,c,d,e,f]⟩)=some (.agg ⟨[a,b,c]⟩):=by
 have h1:aggT Tryd.prog 24=some true:=by kernel_rfl
 have h2:szOf Tryd.prog 24=some 3:=by kernel_rfl
 simp only[ldB,h1,h2,zA3]
 rfl
theorem ld61_1 {a b c d e f:Value}:ldB Tryd.prog 24 (0+1*3) (some ⟨24,false,[a,b,c,d,e,f]⟩)=some (.agg ⟨[d,e,f]⟩):=by
 have h1:aggT Tryd.prog 24=some true:=by kernel_rfl
 have h2:szOf Tryd.prog 24=some 3:=by kernel_rfl
 simp only[ldB,h1,h2,zA3]
 rfl
theorem ops13_c (H:AHeap) (u1 u2:Value) (g h:List (List Ce)) (r c r2 c2:Int) (h1:GridS H u1 g) (h2:GridS H u2 h) (hok:H.base≤H.next) (hg12:g.length≤12) (hgw:∀ l∈g,l.length≤60) (hh12:h.length≤12) (hhw:∀ l∈h,l.length≤60) (hs1:scb H.next u1=true) (hs2:scb H.next u2=true) :
  CallA Tryd.prog 13 [.agg ⟨[u1,.int .i64 r,.int .i64 c]⟩,.agg ⟨[u2,.int .i64 r2,.int .i64 c2]⟩] H (OpsA H g h r c r2 c2):=by
 obtain⟨x,hx⟩:∃ x,H.next=x:=⟨_,rfl⟩
 have hxb:H.base≤x:=hx▸hok
 obtain⟨a1,b1,e1⟩:=h1.at_.sl
 obtain⟨a2,b2,e2⟩:=h2.at_.sl
 rw[hx]at hs1 hs2
 have hs1':=hs1
 have hs2':=hs2
 rw[e1]at hs1'
 rw[e2]at hs2'
 refine callE_fn mixed Tryd.func13 rfl Tryd.ntmps13 (zA9 rfl) ?_
 rw[e1,e2]
 simp (maxDischargeDepth:=6) only[hx,hxb,hs1',hs2',xD,ruW,putL,Nat.reduceLeDiff,xF,ruU,entryE,Nat.reduceLT,Nat.reduceAdd,Nat.reduceMul,Nat.reduceEqDiff]
 rw[←e1,←e2]
 refine w_env fun E hE=>?_
 have g2:E 2=.pointer (some ⟨x+0,0,none⟩):=by rw[hE]; simp only[ruU,entryE,Nat.reduceLT,Nat.reduceAdd,Nat.reduceMul,Nat.reduceEqDiff]
 have g3:E 3=.pointer (some ⟨x+1,0,none⟩):=by rw[hE]; simp only[ruU,entryE,Nat.reduceLT,Nat.reduceAdd,Nat.reduceMul,Nat.reduceEqDiff]
 have g16:E 16=.slice (some ⟨x+2,0,some 0⟩) 2 2:=by rw[hE]; simp only[ruU,entryE,Nat.reduceLT,Nat.reduceAdd,Nat.reduceMul,Nat.reduceEqDiff]
 have g17:E 17=.int .i64 2:=by rw[hE]; (simp only[ruU,entryE,Nat.reduceLT,Nat.reduceAdd,Nat.reduceMul,Nat.reduceEqDiff]<;>rfl)
 have g18:E 18=.int .i64 ((0:Nat):Int):=by rw[hE]; (simp only[ruU,entryE,Nat.reduceLT,Nat.reduceAdd,Nat.reduceMul,Nat.reduceEqDiff]<;>rfl)
 clear hE
 generalize hX:ext H _=X
 have mX:Mod [] H X:=hX▸Mod.ext hok
 have nX:X.next=x+3:=by rw[←hX,ext_next,hx]; rfl
 have bX0:bk X (x+0)=some ⟨24,false,[u1,.int .i64 r,.int .i64 c]⟩:=by rw[←hX,bk_at hx (by simp)]; rfl
 have bX1:bk X (x+1)=some ⟨24,false,[u2,.int .i64 r2,.int .i64 c2]⟩:=by rw[←hX,bk_at hx (by simp)]; rfl
 have bX2:bk X (x+2)=some ⟨24,false,[u1,.int .i64 r,.int .i64 c,u2,.int .i64 r2,.int .i64 c2]⟩:=by rw[←hX,bk_at hx (by simp)]; rfl
 clear hX
 refine blockC_meet (fun E' Y=>E' 2=.pointer (some ⟨x+0,0,none⟩)∧E' 3=.pointer (some ⟨x+1,0,none⟩)∧Mod [] H Y∧x+3≤Y.next∧bk Y (x+0)=some ⟨24,false,[u1,.int .i64 r,.int .i64 c]⟩∧bk Y (x+1)=some ⟨24,false,[u2,.int .i64 r2,.int .i64 c2]⟩∧chkR g r c=0∧chkR h r2 c2=0) ?_ ?_
 ·refine w_loop (fun (k:Nat) E' Y=>E' 2=.pointer (some ⟨x+0,0,none⟩)∧E' 3=.pointer (some ⟨x+1,0,none⟩)∧E' 16=.slice (some ⟨x+2,0,some 0⟩) 2 2∧E' 17=.int .i64 2∧E' 18=.int .i64 (k:Int)∧k≤2∧Mod [] H Y∧Mod [] X Y∧x+3≤Y.next∧(0<k→chkR g r c=0)∧(1<k→chkR h r2 c2=0)) (fun k=>2-k) 0
   ⟨g2,g3,g16,g17,g18,by omega,mX,Mod.refl,by omega,by omega,by omega⟩ ?_
  clear g2 g3 g16 g17 g18 E
  rintro k E Y ⟨g2,g3,g16,g17,g18,hk,mY,mXY,yl,hc1,hc2⟩
  have okY:=mY.ok hok
  obtain⟨y,hy⟩:∃ y,Y.next=y:=⟨_,rfl⟩
  have hyb:Y.base≤y:=hy▸okY
  have bY0:=(mXY.bk (n:=x+0) (by omega) (by simp)).trans bX0
  have bY1:=(mXY.bk (n:=x+1) (by omega) (by simp)).trans bX1
  have bY2:=(mXY.bk (n:=x+2) (by omega) (by simp)).trans bX2
  have l2:x+2<y:=by omega
  rw[show Y=ext Y [] from rfl]
  match k,hk,hc1,hc2,g18 with
  |2,_,hc1,hc2,g18 =>
   have hd:decide (((2:Nat):Int)<2)=false:=by decide
   simp (maxDischargeDepth:=6) only[g2,g3,g16,g17,g18,hd,xD,ruW,putL,Nat.reduceLeDiff,xF,ruU,entryE,Nat.reduceLT,Nat.reduceAdd,Nat.reduceMul,Nat.reduceEqDiff]
   exact joinR_normal ⟨by simp only[g2,ruU,entryE,Nat.reduceLT,Nat.reduceAdd,Nat.reduceMul,Nat.reduceEqDiff],by simp only[g3,ruU,entryE,Nat.reduceLT,Nat.reduceAdd,Nat.reduceMul,Nat.reduceEqDiff],mY,yl,bY0,bY1,hc1 (by omega),hc2 (by omega)⟩
  |0,_,_,_,g18 =>
   have hd:decide (((0:Nat):Int)<2)=true:=by decide
   have ia:=ia61 (x:=x+2) (k:=0) (i:=((0:Nat):Int)) rfl (by omega)
   have hsu:scb y (.slice a1 g.length b1)=true:=scb_mono (by omega) _ hs1'
   have bY2':=bY2
   rw[e1]at bY2'
   simp (maxDischargeDepth:=6) only[g2,g3,g16,g17,g18,hy,hyb,hd,bY2',l2,ia,ld61_0,qk_old,hsu,xD,ruW,putL,Nat.reduceLeDiff,xF,ruU,entryE,Nat.reduceLT,Nat.reduceAdd,Nat.reduceMul,Nat.reduceEqDiff]
   rw[←e1]
   generalize hV:ext Y _=V
   have mV:Mod [] Y V:=hV▸Mod.ext okY
   have nV:V.next=y+1:=by rw[←hV,ext_next,hy]; rfl
   have bV:bk V (y+0)=some ⟨24,false,[u1,.int .i64 r,.int .i64 c]⟩:=by rw[←hV,bk_at hy (by simp)]; rfl
   clear hV
   have lV:y+0<y+1:=by omega
   have mHV:=mY.trans mV
   rw[show V=ext V [] from rfl]
   obtain⟨e,he⟩:∃ e,chkR g r c=e:=⟨_,rfl⟩
   have hck:=check39_c (ext V []) u1 g r c (h1.at_.mod0 mHV) (fun l hl=>by have:=hgw l hl; omega) (by omega)
   rw[he]at hck
   refine hck.to ?_
   obtain⟨d,hd⟩:∃ d,decide (¬e=0)=d:=⟨_,rfl⟩
   cases d with
   |true =>
    have hne:=of_decide_eq_true hd
    simp (maxDischargeDepth:=6) only[g2,g3,g16,g17,g18,hd,joinR_ret,Tryd.results13,xD,ruW,putL,Nat.reduceLeDiff,xF,ruU,entryE,Nat.reduceLT,Nat.reduceAdd,Nat.reduceMul,Nat.reduceEqDiff]
    exact OpsA.err mHV ((opsV_1 (by rw[he]; exact hne)).trans (by rw[he]))
   |false =>
    have h0:e=0:=by simpa using of_decide_eq_false hd
    rw[h0]at he
    simp (maxDischargeDepth:=6) only[g2,g3,g16,g17,g18,hd,xD,ruW,putL,Nat.reduceLeDiff,xF,ruU,entryE,Nat.reduceLT,Nat.reduceAdd,Nat.reduceMul,Nat.reduceEqDiff]
    refine loopC_next ⟨1,by omega,by simp only[g2,ruU,entryE,Nat.reduceLT,Nat.reduceAdd,Nat.reduceMul,Nat.reduceEqDiff],by simp only[g3,ruU,entryE,Nat.reduceLT,Nat.reduceAdd,Nat.reduceMul,Nat.reduceEqDiff],by simp only[g16,ruU,entryE,Nat.reduceLT,Nat.reduceAdd,Nat.reduceMul,Nat.reduceEqDiff],by simp only[g17,ruU,entryE,Nat.reduceLT,Nat.reduceAdd,Nat.reduceMul,Nat.reduceEqDiff],by simp only[ruU,entryE,Nat.reduceLT,Nat.reduceAdd,Nat.reduceMul,Nat.reduceEqDiff]<;>rfl,by omega,mHV,mXY.trans mV,by rw[ext_next,nV]; simp only[zC3]; omega,fun _=>he,by omega⟩
  |1,_,hc1,_,g18 =>
   have hd:decide (((1:Nat):Int)<2)=true:=by decide
   have ia:=ia61 (x:=x+2) (k:=1) (i:=((1:Nat):Int)) rfl (by omega)
   have hsu:scb y (.slice a2 h.length b2)=true:=scb_mono (by omega) _ hs2'
   have bY2':=bY2
   rw[e2]at bY2'
   simp (maxDischargeDepth:=6) only[g2,g3,g16,g17,g18,hy,hyb,hd,bY2',l2,ia,ld61_1,qk_old,hsu,xD,ruW,putL,Nat.reduceLeDiff,xF,ruU,entryE,Nat.reduceLT,Nat.reduceAdd,Nat.reduceMul,Nat.reduceEqDiff]
   rw[←e2]
   generalize hV:ext Y _=V
   have mV:Mod [] Y V:=hV▸Mod.ext okY
   have nV:V.next=y+1:=by rw[←hV,ext_next,hy]; rfl
   have bV:bk V (y+0)=some ⟨24,false,[u2,.int .i64 r2,.int .i64 c2]⟩:=by rw[←hV,bk_at hy (by simp)]; rfl
   clear hV
   have lV:y+0<y+1:=by omega
   have mHV:=mY.trans mV
   rw[show V=ext V [] from rfl]
   obtain⟨e,he⟩:∃ e,chkR h r2 c2=e:=⟨_,rfl⟩
   have hck:=check39_c (ext V []) u2 h r2 c2 (h2.at_.mod0 mHV) (fun l hl=>by have:=hhw l hl; omega) (by omega)
   rw[he]at hck
   refine hck.to ?_
   obtain⟨d,hd⟩:∃ d,decide (¬e=0)=d:=⟨_,rfl⟩
   cases d with
   |true =>
    have hne:=of_decide_eq_true hd
    simp (maxDischargeDepth:=6) only[g2,g3,g16,g17,g18,hd,joinR_ret,Tryd.results13,xD,ruW,putL,Nat.reduceLeDiff,xF,ruU,entryE,Nat.reduceLT,Nat.reduceAdd,Nat.reduceMul,Nat.reduceEqDiff]
    exact OpsA.err mHV ((opsV_2 (hc1 (by omega)) (by rw[he]; exact hne)).trans (by rw[he]))
   |false =>
    have h0:e=0:=by simpa using of_decide_eq_false hd
    rw[h0]at he
    simp (maxDischargeDepth:=6) only[g2,g3,g16,g17,g18,hd,xD,ruW,putL,Nat.reduceLeDiff,xF,ruU,entryE,Nat.reduceLT,Nat.reduceAdd,Nat.reduceMul,Nat.reduceEqDiff]
    refine loopC_next ⟨2,by omega,by simp only[g2,ruU,entryE,Nat.reduceLT,Nat.reduceAdd,Nat.reduceMul,Nat.reduceEqDiff],by simp only[g3,ruU,entryE,Nat.reduceLT,Nat.reduceAdd,Nat.reduceMul,Nat.reduceEqDiff],by simp only[g16,ruU,entryE,Nat.reduceLT,Nat.reduceAdd,Nat.reduceMul,Nat.reduceEqDiff],by simp only[g17,ruU,entryE,Nat.reduceLT,Nat.reduceAdd,Nat.reduceMul,Nat.reduceEqDiff],by simp only[ruU,entryE,Nat.reduceLT,Nat.reduceAdd,Nat.reduceMul,Nat.reduceEqDiff]<;>rfl,by omega,mHV,mXY.trans mV,by rw[ext_next,nV]; simp only[zC3]; omega,fun _=>hc1 (by omega),fun _=>he⟩
 clear g2 g3 g16 g17 g18 E bX0 bX1 bX2 mX nX X
 rintro E Y ⟨g2,g3,mY,yl,bY0,bY1,hc1,hc2⟩
 have okY:=mY.ok hok
 obtain⟨y,hy⟩:∃ y,Y.next=y:=⟨_,rfl⟩
 have hyb:Y.base≤y:=hy▸okY
 have l0:x+0<y:=by omega
 have l1:x+1<y:=by omega
 obtain⟨ok1,hne1,hg0⟩:=chk_ok hc1
 obtain⟨ok2,hne2,hh0⟩:=chk_ok hc2
 have s1Y:=h1.mod0 mY
 have s2Y:=h2.mod0 mY
 have hgp:0<g.length:=List.length_pos_iff.2 hg0
 have hhp:0<h.length:=List.length_pos_iff.2 hh0
 obtain⟨n1,o1,sp1,cp1,t1,q1,L1,ev1,k1,n1l,le1,tk1⟩:=s1Y.r hg0
 obtain⟨n2,o2,sp2,cp2,t2,q2,L2,ev2,k2,n2l,le2,tk2⟩:=s2Y.r hh0
 rw[hy]at n1l n2l
 obtain⟨w1,hw1⟩:∃ r,g[0]?=some r:=⟨_,zA6 hgp⟩
 obtain⟨w2,hw2⟩:∃ r,h[0]?=some r:=⟨_,zA6 hhp⟩
 obtain⟨rv1,hrv1,rs1⟩:=tk1 0 w1 hw1
 obtain⟨rv2,hrv2,rs2⟩:=tk2 0 w2 hw2
 obtain⟨ra1,rc1,re1⟩:=rs1.sl
 obtain⟨ra2,rc2,re2⟩:=rs2.sl
 rw[re1]at hrv1
 rw[re2]at hrv2
 have hwid1:widG g=w1.length:=by rw[widG,zC9,hw1]; rfl
 have hwid2:widG h=w2.length:=by rw[widG,zC9,hw2]; rfl
 have i1:=grid_ia (n:=n1) (off:=o1) (s:=sp1) (cap:=cp1) (i:=0) (k:=0) rfl hgp
 have i2:=grid_ia (n:=n2) (off:=o2) (s:=sp2) (cap:=cp2) (i:=0) (k:=0) rfl hhp
 have q1':=grid_load (e:=t1) (o:=q1) hrv1
 have q2':=grid_load (e:=t2) (o:=q2) hrv2
 have bY0':=bY0
 have bY1':=bY1
 rw[ev1]at bY0'
 rw[ev2]at bY1'
 obtain⟨d1,hd1⟩:∃ d,decide (¬(g.length:Int)=(h.length:Int))=d:=⟨_,rfl⟩
 obtain⟨d2,hd2⟩:∃ d,decide (¬(w1.length:Int)=(w2.length:Int))=d:=⟨_,rfl⟩
 rw[show Y=ext Y [] from rfl]
 cases d1 with
 |true =>
  have hne:=of_decide_eq_true hd1
  simp (maxDischargeDepth:=6) only[g2,g3,xD,ruW,putL,Nat.reduceLeDiff,xF,ruU,entryE,Nat.reduceLT,Nat.reduceAdd,Nat.reduceMul,Nat.reduceEqDiff]
  refine w_drawB [] [(7,35)] (by kernel_rfl) rfl (by kernel_rfl) fun ops anc hA hG=>?_
  simp only[all2_cons]at hG
  simp (maxDischargeDepth:=6) only[g2,g3,hy,l0,l1,bY0',bY1',hd1,hG,Tryd.results13,xD,ruD,ruW,putL,Nat.reduceLeDiff,xF,ruU,entryE,Nat.reduceLT,Nat.reduceAdd,Nat.reduceMul,Nat.reduceEqDiff]
  exact OpsA.err mY (opsV_3 hc1 hc2 (.inl (by omega)))
 |false =>
 have hgh:g.length=h.length:=by have:=of_decide_eq_false hd1; omega
 cases d2 with
 |true =>
  have hne:=of_decide_eq_true hd2
  simp (maxDischargeDepth:=6) only[g2,g3,xD,ruW,putL,Nat.reduceLeDiff,xF,ruU,entryE,Nat.reduceLT,Nat.reduceAdd,Nat.reduceMul,Nat.reduceEqDiff]
  refine w_drawB [] [(7,35)] (by kernel_rfl) rfl (by kernel_rfl) fun ops anc hA hG=>?_
  simp only[all2_cons]at hG
  simp (maxDischargeDepth:=6) only[g2,g3,hy,l0,l1,bY0',bY1',hd1,hd2,i1,i2,k1,k2,n1l,n2l,q1',q2',qk_old,hG,Tryd.results13,xD,ruD,ruW,putL,Nat.reduceLeDiff,xF,ruU,entryE,Nat.reduceLT,Nat.reduceAdd,Nat.reduceMul,Nat.reduceEqDiff]
  exact OpsA.err mY (opsV_3 hc1 hc2 (.inr (by omega)))
 |false =>
 have hwh:widG g=widG h:=by have:=of_decide_eq_false hd2; omega
 have hV4:=opsV_4 hc1 hc2 hgh hwh
 simp (maxDischargeDepth:=6) only[g2,g3,xD,ruW,putL,Nat.reduceLeDiff,xF,ruU,entryE,Nat.reduceLT,Nat.reduceAdd,Nat.reduceMul,Nat.reduceEqDiff]
 refine w_drawB [] [(7,35)] (by kernel_rfl) rfl (by kernel_rfl) fun ops anc hA hG=>?_
 simp only[all2_cons]at hG
 simp (maxDischargeDepth:=6) only[g2,g3,hy,hyb,l0,l1,bY0',bY1',hd1,hd2,i1,i2,k1,k2,n1l,n2l,q1',q2',qk_old,hG,xD,ruD,ruW,putL,Nat.reduceLeDiff,xF,ruU,entryE,Nat.reduceLT,Nat.reduceAdd,Nat.reduceMul,Nat.reduceEqDiff]
 rw[←ev1,←ev2]
 generalize hV:ext Y _=V
 have mV:Mod [] Y V:=hV▸Mod.ext okY
 have nV:V.next=y+1:=by rw[←hV,ext_next,hy]; rfl
 have bV:bk V (y+0)=some ⟨64,false,[.slice none 0 0,.int .i64 0,.int .i64 0,.bool false,.bool false,.bool false]⟩:=by rw[←hV,bk_at hy (by simp)]; rfl
 clear hV
 have okV:=mV.ok okY
 obtain⟨z,hz⟩:∃ z,V.next=z:=⟨_,rfl⟩
 have hVb:V.base≤z:=hz▸okV
 have mHV:=mY.trans mV
 have s1V:=h1.mod0 mHV
 have s2V:=h2.mod0 mHV
 have bV0:=(mV.bk (n:=x+0) (by omega) (by simp)).trans bY0
 have bV1:=(mV.bk (n:=x+1) (by omega) (by simp)).trans bY1
 have wV:WrAt y [] V (y+0) (.slice none 0 0) [] lk0:=⟨bV,OpsW.nil,by simp[idsV],by omega,by omega,by simp,fun n hn=>by simp[idsV]at hn,fun n hn=>by cases hn⟩
 have hsc:=scroll_c (ext V []) u1 u2 g h s1V s2V (fun l hl=>by have:=hgw l hl; omega) (fun l hl=>by have:=hhw l hl; omega) hgh (by omega)
 obtain⟨so,hso⟩:∃ so,shiftR g h=so:=⟨_,rfl⟩
 rw[hso]at hsc
 obtain⟨ob,hob,hoo⟩:∃ ob:Op,Pure 36 [u1,u2] (ext V []) (.tuple #[ob.val,.bool so.isSome])∧∀ o,so=some o→ob=o:=by
  cases so with
  |none=>exact⟨_,hsc,fun o h=>by cases h⟩
  |some o=>exact⟨o,hsc,fun o' h=>by cases h; rfl⟩
 rw[show V=ext V [] from rfl]
 refine hob.to ?_
 simp (maxDischargeDepth:=6) only[g2,g3,hz,hVb,Op.val,Op.cells,xD,ruW,putL,Nat.reduceLeDiff,xF,ruU,entryE,Nat.reduceLT,Nat.reduceAdd,Nat.reduceMul,Nat.reduceEqDiff]
 generalize hU:ext V _=U
 have mU:Mod [] V U:=hU▸Mod.ext okV
 have nU:U.next=z+1:=by rw[←hU,ext_next,hz]; rfl
 have bU:bk U (z+0)=some ⟨47,false,ob.cells⟩:=by rw[←hU,bk_at hz (by simp)]; rfl
 clear hU
 have okU:=mU.ok okV
 have mHU:=mHV.trans mU
 have wU:=wV.of mU
 have bU0:=(mU.bk (n:=x+0) (by omega) (by simp)).trans bV0
 have bU1:=(mU.bk (n:=x+1) (by omega) (by simp)).trans bV1
 have hHN:H.next≤y:=by rw[←hy]; exact mY.next
 refine condC_meet (fun E' Z=>E' 2=.pointer (some ⟨x+0,0,none⟩)∧E' 3=.pointer (some ⟨x+1,0,none⟩)∧E' 9=.pointer (some ⟨y+0,0,none⟩)∧∃ F v uo rr cc,Mod [] H Z∧y+1≤Z.next∧bk Z (x+0)=some ⟨24,false,[uo,.int .i64 rr,.int .i64 cc]⟩∧bk Z (x+1)=some ⟨24,false,[u2,.int .i64 r2,.int .i64 c2]⟩∧WrAt y F Z (y+0) v so.toList lk0∧GridF y F Z uo (nowR g h r c)) ?_ ?_
 ·cases so with
  |none =>
   simp (maxDischargeDepth:=6) only[Option.isSome_none,xD,ruW,putL,Nat.reduceLeDiff,xF,ruU,entryE,Nat.reduceLT,Nat.reduceAdd,Nat.reduceMul,Nat.reduceEqDiff]
   have hnow:nowR g h r c=g:=by unfold nowR; rw[hso]
   exact joinR_normal ⟨by simp only[g2,ruU,entryE,Nat.reduceLT,Nat.reduceAdd,Nat.reduceMul,Nat.reduceEqDiff],by simp only[g3,ruU,entryE,Nat.reduceLT,Nat.reduceAdd,Nat.reduceMul,Nat.reduceEqDiff],by simp only[ruU,entryE,Nat.reduceLT,Nat.reduceAdd,Nat.reduceMul,Nat.reduceEqDiff],[],_,u1,r,c,mHU,by show y+1≤U.next; omega,bU0,bU1,wU,by rw[hnow]; exact (((h1.r hg0).f hHN).mod0 mHU)⟩
  |some o =>
   have hoe:=hoo o rfl
   subst hoe
   have lz0:z+0<z+1:=by omega
   have bU':=bU
   simp only[Op.cells]at bU'
   rw[show U=ext U [] from rfl]
   simp (maxDischargeDepth:=6) only[g2,g3,nU,bU',lz0,Option.isSome_some,Op.val,Op.cells,xD,ruW,putL,Nat.reduceLeDiff,xF,ruU,entryE,Nat.reduceLT,Nat.reduceAdd,Nat.reduceMul,Nat.reduceEqDiff]
   refine (put_c y [] (ext U []) (y+0) (.slice none 0 0) [] lk0 ob wU okU (by simp) (by show y≤U.next; omega)).mono ?_
   rintro _ Z1 ⟨rfl,v1,w1,kZ⟩
   replace kZ:KpN y [] U Z1:=kZ
   rw[zB8]at w1
   have okZ:=kZ.ok okU
   have mHZ:Mod [] H Z1:=kZ.mod mHU hok hHN
   have zn1:=kZ.next
   obtain⟨z1,hz1⟩:∃ n,Z1.next=n:=⟨_,rfl⟩
   have bZ0:=(kZ.bk (n:=x+0) (by omega) (.inl (by omega))).trans bU0
   have bZ1:=(kZ.bk (n:=x+1) (by omega) (.inl (by omega))).trans bU1
   have wc:=w1.cell
   have l0z:x+0<z1:=by omega
   have lyz:y+0<z1:=by omega
   obtain⟨F1,hF1,hFG⟩:=(h1.mod0 mHZ).at_.foot hg0
   obtain⟨F,hF⟩:∃ F,F=F1++idsV v1:=⟨_,rfl⟩
   have hFF:∀ n∈F,Z1.get n≠none∧n<Z1.next:=fun n hn=>by
    rw[hF]at hn
    rcases zB5.1 hn with hn|hn
    ·exact hF1 n hn
    exact w1.ops.ne n hn
   have hrn:=restrict_next Z1 F
   have hrg:∀ n∈F,(Z1.restrict F).get n=Z1.get n:=fun n hn=>by rw[restrict_get,if_pos hn]
   obtain⟨gR,_⟩:=hFG (Z1.restrict F) (by rw[hrn.1]; exact zA4 _) (fun n hn=>hrg n (hF▸zE4 _ hn))
   have oR:OpsAt (Z1.restrict F) v1 [ob]:=w1.ops.at_.of (by rw[hrn.1]; exact zA4 _) fun n hn=>hrg n (hF▸zE2 _ hn)
   obtain⟨tt,bb,ii,kk,hroll,hk56,-⟩:=shift_some hso hgh
   obtain⟨out,gg,hcs,hap⟩:=apply_s (Z1.restrict F) u1 v1 g r c [ob] gR oR (by rw[hrn.1,hrn.2.1]; exact zA4 _) (by rw[hrn.1,hz1]; exact scb_mono (by omega) _ hs1) (fun l hl=>by have:=hgw l hl; omega) (by omega) (fun o ho=>by rw[zA8]at ho; subst ho; rw[hroll]; exact hk56) (by simp)
   obtain⟨mg,ua,rva,Na,rfl,hNa,own⟩:=hap.val
   have hnow:nowR g h r c=(appV g r c [ob]).1:=by unfold nowR; rw[hso]
   obtain⟨⟨ga,ra,ca,ea,ia⟩,hav⟩:∃ q,appV g r c [ob]=q:=⟨_,rfl⟩
   rw[hav]at hcs own hnow
   simp only at hcs own hnow
   rw[hrn.1,hz1]at hNa
   rw[show Z1=ext Z1 [] from rfl]
   simp (maxDischargeDepth:=6) only[g2,g3,hz1,bZ0,wc,l0z,lyz,xD,ruW,putL,Nat.reduceLeDiff,xF,ruU,entryE,Nat.reduceLT,Nat.reduceAdd,Nat.reduceMul,Nat.reduceEqDiff]
   refine w_drawB [(10,0),(10,4),(10,5),(6,5),(7,5)] [] (by kernel_rfl) (by kernel_rfl) rfl fun ops anc hA hG=>?_
   simp only[all2_cons]at hA
   simp (maxDischargeDepth:=6) only[g2,hz1,bZ0,wc,l0z,lyz,hA,xD,ruD,ruW,putL,Nat.reduceLeDiff,xF,ruU,entryE,Nat.reduceLT,Nat.reduceAdd,Nat.reduceMul,Nat.reduceEqDiff]
   refine genV_mod (H:=ext Z1 []) (W:=[]) F okZ (by simp only[ruU,entryE,Nat.reduceLT,Nat.reduceAdd,Nat.reduceMul,Nat.reduceEqDiff]) (by kernel_rfl) (fun n hn=>(hFF n hn).1) (fun n hn=>(hFF n hn).2) (fun _ h=>by simp at h) (v:=.tuple #[.agg #[ua,.int .i64 ra,.int .i64 ca],.int .i64 ea,.int .i64 ia]) (g:=gg) (by simp only[ruU,entryE,Nat.reduceLT,Nat.reduceAdd,Nat.reduceMul,Nat.reduceEqDiff]; exact hcs) mg (by simp only[all2_cons,all2_nil,hA,true_or,and_true]; simp) ?_
   intro Z D mZ hFZ hNZ hnZ hDZ
   have hD0:D=[]:=List.eq_nil_iff_forall_not_mem.2 (fun q hq=>by simpa using hDZ q hq)
   subst hD0
   replace mZ:Mod [] Z1 Z:=mZ
   have hzn:=mZ.next
   have hnZ':Z.next=gg.next:=hnZ
   have ownZ:OwnG Na Z ua rva ga:=own.of (by omega) (fun n h3 h4 _=>hNZ n (by show Z1.next≤n; omega) h4)
   obtain⟨aua,cua,eua⟩:=ownZ.grid.sl
   obtain⟨zz,hzz⟩:∃ n,Z.next=n:=⟨_,rfl⟩
   have hsua:scb zz ua=true:=by
    rcases ownZ.at_ with⟨_,h⟩|⟨m,s,c',o,e,_,_,hm,_⟩
    ·rw[h]; rfl
    ·rw[e]; exact blt_of (show m<zz by omega)
   have kz0:=(mZ.bk (n:=x+0) (by omega) (by simp)).trans bZ0
   have kz1:=(mZ.bk (n:=x+1) (by omega) (by simp)).trans bZ1
   have lzz:x+0<zz:=by omega
   rw[show Z=ext Z [] from rfl,eua]
   rw[eua]at hsua
   simp (maxDischargeDepth:=6) only[g2,g3,hzz,kz0,lzz,hsua,hA,xD,ruD,ruW,putL,Nat.reduceLeDiff,xF,ruU,entryE,Nat.reduceLT,Nat.reduceAdd,Nat.reduceMul,Nat.reduceEqDiff]
   rw[←eua]
   generalize hW:uw Z (x+0) 0 _=W
   have mW:Mod [x+0] Z W:=hW▸Mod.uw (by simp)
   have kW0:bk W (x+0)=some ⟨24,false,[ua,.int .i64 ra,.int .i64 ca]⟩:=by rw[←hW,bk_uw_eq,kz0]; rfl
   clear hW
   have hq:∀ q∈idsV ua++rva.flatMap idsV,Z1.next≤q∧q<Z.next:=fun q hq=>by
    rcases zB5.1 hq with hq|hq
    ·have:=ownZ.idv q hq; omega
    ·have:=ownZ.ids q hq; omega
   have wW:=(w1.mores mZ hq).low mW (show x+0<y by omega)
   have ownW:OwnG Na W ua rva ga:=ownZ.of mW.next fun n h3 h4 _=>mW.get n h4 (by simp only[zA8]; omega)
   have hga:ga≠[]:=fun e=>by
    have h3:=(nowR_len (h:=h) hgh hc1).1
    rw[hnow,e,zC3]at h3
    omega
   have hWn:=mW.next
   exact joinR_normal ⟨by simp only[g2,ruU,entryE,Nat.reduceLT,Nat.reduceAdd,Nat.reduceMul,Nat.reduceEqDiff],by simp only[g3,ruU,entryE,Nat.reduceLT,Nat.reduceAdd,Nat.reduceMul,Nat.reduceEqDiff],by simp only[ruU,entryE,Nat.reduceLT,Nat.reduceAdd,Nat.reduceMul,Nat.reduceEqDiff],_,v1,ua,ra,ca,(mHZ.trans mZ).step mW hok fun n hn=>.inr (by simp only[zA8]at hn; omega),by show y+1≤W.next; omega,kW0,(mW.bk (by omega) (by simp only[zA8]; omega)).trans kz1,wW,by rw[hnow]; exact ownW.f hga fun n hn=>zE4 _ hn⟩
 clear g2 g3 E
 rintro E Z ⟨g2,g3,g9,F,v,uo,rr,cc,mZ,zl,bZ0,bZ1,w,gf⟩
 obtain⟨NR,hNR⟩:∃ NR,nowR g h r c=NR:=⟨_,rfl⟩
 have hnl:=nowR_len (h:=h) hgh hc1
 rw[hNR]at gf hnl
 have hneN:∀ l∈NR,l≠[]:=fun l hl e=>by
  have h3:=hnl.2 l hl
  rw[e,zC3]at h3
  have:=ok1.w1
  omega
 have okZ:=mZ.ok hok
 have gf2:GridF y F Z u2 h:=((h2.r hh0).f hHN).mod0 mZ
 obtain⟨zz,hzz⟩:∃ n,Z.next=n:=⟨_,rfl⟩
 have lz1:x+1<zz:=by omega
 have bZ1':=bZ1
 rw[e2]at bZ1'
 rw[show Z=ext Z [] from rfl]
 simp (maxDischargeDepth:=6) only[g2,g3,g9,hzz,lz1,bZ1',xD,ruW,putL,Nat.reduceLeDiff,xF,ruU,entryE,Nat.reduceLT,Nat.reduceAdd,Nat.reduceMul,Nat.reduceEqDiff]
 refine w_env fun E' hE=>?_
 have r2':E' 2=.pointer (some ⟨x+0,0,none⟩):=by rw[hE]; simp only[g2,ruU,entryE,Nat.reduceLT,Nat.reduceAdd,Nat.reduceMul,Nat.reduceEqDiff]
 have r3':E' 3=.pointer (some ⟨x+1,0,none⟩):=by rw[hE]; simp only[g3,ruU,entryE,Nat.reduceLT,Nat.reduceAdd,Nat.reduceMul,Nat.reduceEqDiff]
 have r9':E' 9=.pointer (some ⟨y+0,0,none⟩):=by rw[hE]; simp only[g9,ruU,entryE,Nat.reduceLT,Nat.reduceAdd,Nat.reduceMul,Nat.reduceEqDiff]
 have r73:E' 73=u2:=by rw[hE,e2]; simp only[ruU,entryE,Nat.reduceLT,Nat.reduceAdd,Nat.reduceMul,Nat.reduceEqDiff]
 have r74:E' 74=.int .i64 (h.length:Int):=by rw[hE]; simp only[ruU,entryE,Nat.reduceLT,Nat.reduceAdd,Nat.reduceMul,Nat.reduceEqDiff]
 have r75:E' 75=.int .i64 ((0:Nat):Int):=by rw[hE]; (simp only[ruU,entryE,Nat.reduceLT,Nat.reduceAdd,Nat.reduceMul,Nat.reduceEqDiff]<;>rfl)
 clear hE g2 g3 g9 E
 obtain⟨L,hL⟩:∃ L,so.toList++rowsR 0 NR h lk0=L:=⟨_,rfl⟩
 have hsl:so.toList.length≤1:=by cases so<;>simp
 refine blockC_meet (fun E' Y=>E' 3=.pointer (some ⟨x+1,0,none⟩)∧E' 9=.pointer (some ⟨y+0,0,none⟩)∧Mod [] H Y∧y+1≤Y.next∧bk Y (x+1)=some ⟨24,false,[u2,.int .i64 r2,.int .i64 c2]⟩∧∃ v k,WrAt y F Y (y+0) v L k∧L.length≤3000) ?_ ?_
 ·refine w_loop (fun (q:Nat × Value × List Op × Lk) E' Y=>E' 2=.pointer (some ⟨x+0,0,none⟩)∧E' 3=.pointer (some ⟨x+1,0,none⟩)∧E' 9=.pointer (some ⟨y+0,0,none⟩)∧E' 73=u2∧E' 74=.int .i64 (h.length:Int)∧E' 75=.int .i64 (q.1:Int)∧KpN y F Z Y∧WrAt y F Y (y+0) q.2.1 q.2.2.1 q.2.2.2∧q.1≤h.length∧q.2.2.1++rowsR q.1 (NR.drop q.1) (h.drop q.1) q.2.2.2=L∧q.2.2.1.length≤1+q.1*182) (fun q=>h.length-q.1) (0,v,so.toList,lk0)
   ⟨r2',r3',r9',r73,r74,r75,KpN.refl,w,zB2 _,by simp only[zD6]; exact hL,by simp only; omega⟩ ?_
  clear r2' r3' r9' r73 r74 r75 E'
  rintro⟨i,v,l,k⟩ E Y ⟨g2,g3,g9,g73,g74,g75,kY,w,hi,hL',hll⟩
  simp only at g75 w hi hL' hll
  have okY:=kY.ok okZ
  have yn:=kY.next
  obtain⟨yy,hyy⟩:∃ n,Y.next=n:=⟨_,rfl⟩
  have bY0:=(kY.bk (n:=x+0) (by omega) (.inl (by omega))).trans bZ0
  have bY1:=(kY.bk (n:=x+1) (by omega) (.inl (by omega))).trans bZ1
  rw[show Y=ext Y [] from rfl]
  by_cases hil:i<h.length
  case neg =>
   have hc0:decide ((i:Int)<(h.length:Int))=false:=decide_eq_false (by omega)
   rw[rowsR_end k (by omega),zC8]at hL'
   subst hL'
   simp (maxDischargeDepth:=6) only[g2,g3,g9,g73,g74,g75,hc0,xD,ruW,putL,Nat.reduceLeDiff,xF,ruU,entryE,Nat.reduceLT,Nat.reduceAdd,Nat.reduceMul,Nat.reduceEqDiff]
   exact joinR_normal ⟨by simp only[g3,ruU,entryE,Nat.reduceLT,Nat.reduceAdd,Nat.reduceMul,Nat.reduceEqDiff],by simp only[g9,ruU,entryE,Nat.reduceLT,Nat.reduceAdd,Nat.reduceMul,Nat.reduceEqDiff],kY.mod mZ hok hHN,by show y+1≤Y.next; omega,bY1,v,k,w,by omega⟩
  have hc0:decide ((i:Int)<(h.length:Int))=true:=decide_eq_true (by omega)
  obtain⟨b,hb⟩:∃ b,h[i]?=some b:=⟨_,zA6 hil⟩
  obtain⟨a,ha⟩:∃ a,NR[i]?=some a:=⟨_,zA6 (by omega)⟩
  have hal:=hnl.2 a (zC1 ha)
  have hbm:=zC1 hb
  have hbl:=ok2.wid b hbm
  have hb60:=hhw b hbm
  have hbne:=hne2 b hbm
  have hane:=hneN a (zC1 ha)
  rw[rowsR_step k ha hb]at hL'
  obtain⟨n1,o1,sp1,cp1,t1,q1,L1,ev1,k1,n1l,-,le1,tk1⟩:=gf.kp kY hneN
  obtain⟨n2,o2,sp2,cp2,t2,q2,L2,ev2,k2,n2l,-,le2,tk2⟩:=gf2.kp kY hne2
  rw[hyy]at n1l n2l
  obtain⟨rva,hrva,rsa,hia⟩:=tk1 i a ha
  obtain⟨rvb,hrvb,rsb,hib⟩:=tk2 i b hb
  have i1:=grid_ia (len:=NR.length) (n:=n1) (off:=o1) (s:=sp1) (cap:=cp1) (i:=(i:Int)) rfl (by omega)
  have i2:=grid_ia (len:=h.length) (n:=n2) (off:=o2) (s:=sp2) (cap:=cp2) (i:=(i:Int)) rfl hil
  have q1':=grid_load (e:=t1) (o:=q1) hrva
  have q2':=grid_load (e:=t2) (o:=q2) hrvb
  have g73':=g73
  rw[ev2]at g73'
  have bY0':=bY0
  rw[ev1]at bY0'
  have ly0:x+0<yy:=by omega
  obtain⟨d,hd⟩:∃ d,decide (a=b)=d:=⟨_,rfl⟩
  simp (maxDischargeDepth:=6) only[g2,g3,g9,g73',g74,g75,hyy,hc0,i1,i2,k1,k2,n1l,n2l,q1',q2',bY0',ly0,qk_old,xD,ruW,putL,Nat.reduceLeDiff,xF,ruU,entryE,Nat.reduceLT,Nat.reduceAdd,Nat.reduceMul,Nat.reduceEqDiff]
  refine (eqCells_c (ext Y []) rva rvb a b rsa.at_ rsb.at_ (by omega)).to ?_
  cases d with
  |true =>
   have he:=of_decide_eq_true hd
   rw[if_pos he]at hL'
   simp (maxDischargeDepth:=6) only[g2,g3,g9,g73',g74,g75,hd,zD3,wrap_succ (show i<1000000 by omega),xD,ruW,putL,Nat.reduceLeDiff,xF,ruU,entryE,Nat.reduceLT,Nat.reduceAdd,Nat.reduceMul,Nat.reduceEqDiff]
   exact loopC_next ⟨(i+1,v,l,k),by simp only; omega,by simp only[g2,ruU,entryE,Nat.reduceLT,Nat.reduceAdd,Nat.reduceMul,Nat.reduceEqDiff],by simp only[g3,ruU,entryE,Nat.reduceLT,Nat.reduceAdd,Nat.reduceMul,Nat.reduceEqDiff],by simp only[g9,ruU,entryE,Nat.reduceLT,Nat.reduceAdd,Nat.reduceMul,Nat.reduceEqDiff],by simp only[g73,ruU,entryE,Nat.reduceLT,Nat.reduceAdd,Nat.reduceMul,Nat.reduceEqDiff],by simp only[g74,ruU,entryE,Nat.reduceLT,Nat.reduceAdd,Nat.reduceMul,Nat.reduceEqDiff],by simp only[ruU,entryE,Nat.reduceLT,Nat.reduceAdd,Nat.reduceMul,Nat.reduceEqDiff],kY,w,by simp only; omega,hL',by simp only; omega⟩
  |false =>
   have he:=of_decide_eq_false hd
   rw[if_neg he]at hL'
   simp (maxDischargeDepth:=6) only[g2,g3,g9,g73',g74,g75,hyy,hd,i1,i2,k1,k2,n1l,n2l,q1',q2',bY0',ly0,qk_old,zE1,xD,ruW,putL,Nat.reduceLeDiff,xF,ruU,entryE,Nat.reduceLT,Nat.reduceAdd,Nat.reduceMul,Nat.reduceEqDiff]
   refine (rowW_c y F (ext Y []) (y+0) v rva rvb l k i a b w rsa rsb (hia hane) (hib hbne) (by omega) hbne (by omega) (by omega) (chk_isR hc2 b hbm) okY (by show y≤Y.next; omega)).mono ?_
   rintro _ Y2 ⟨rfl,v2,w2,k2⟩
   have hlr:=lineR_len i a b k
   simp (maxDischargeDepth:=6) only[g2,g3,g9,g73',g74,g75,wrap_succ (show i<1000000 by omega),xD,ruW,putL,Nat.reduceLeDiff,xF,ruU,entryE,Nat.reduceLT,Nat.reduceAdd,Nat.reduceMul,Nat.reduceEqDiff]
   exact loopC_next ⟨(i+1,v2,_,_),by simp only; omega,by simp only[g2,ruU,entryE,Nat.reduceLT,Nat.reduceAdd,Nat.reduceMul,Nat.reduceEqDiff],by simp only[g3,ruU,entryE,Nat.reduceLT,Nat.reduceAdd,Nat.reduceMul,Nat.reduceEqDiff],by simp only[g9,ruU,entryE,Nat.reduceLT,Nat.reduceAdd,Nat.reduceMul,Nat.reduceEqDiff],by simp only[g73,ruU,entryE,Nat.reduceLT,Nat.reduceAdd,Nat.reduceMul,Nat.reduceEqDiff],by simp only[g74,ruU,entryE,Nat.reduceLT,Nat.reduceAdd,Nat.reduceMul,Nat.reduceEqDiff],by simp only[ruU,entryE,Nat.reduceLT,Nat.reduceAdd,Nat.reduceMul,Nat.reduceEqDiff],kY.trans k2,w2,by simp only; omega,by simp only; rw[zG1]; exact hL',by simp only[zB7]; omega⟩
 clear r2' r3' r9' r73 r74 r75 E'
 rintro E Y ⟨g3,g9,mY2,yl2,bY1,v,k,w,hll⟩
 have okY2:=mY2.ok hok
 obtain⟨yy,hyy⟩:∃ n,Y.next=n:=⟨_,rfl⟩
 have ly1:x+1<yy:=by omega
 have hops:opsR g h r c r2 c2=L++curR r2 c2:=by rw[opsR,hso,hNR,hL]
 obtain⟨d,hd⟩:∃ d,decide (r2<0)=d:=⟨_,rfl⟩
 rw[show Y=ext Y [] from rfl]
 simp (maxDischargeDepth:=6) only[g3,g9,hyy,ly1,bY1,hd,xD,ruW,putL,Nat.reduceLeDiff,xF,ruU,entryE,Nat.reduceLT,Nat.reduceAdd,Nat.reduceMul,Nat.reduceEqDiff]
 refine condC_meet (fun E' X=>E' 9=.pointer (some ⟨y+0,0,none⟩)∧Mod [] H X∧y+1≤X.next∧∃ v k,WrAt y F X (y+0) v (opsR g h r c r2 c2) k) ?_ ?_
 ·cases d with
  |true =>
   have he:=of_decide_eq_true hd
   rw[hops,curR,if_pos he]
   simp (maxDischargeDepth:=6) only[g3,g9,hyy,ly1,bY1,xD,ruW,putL,Nat.reduceLeDiff,xF,ruU,entryE,Nat.reduceLT,Nat.reduceAdd,Nat.reduceMul,Nat.reduceEqDiff]
   refine (put_c y F (ext Y []) (y+0) v L k (opK 8) w okY2 (by omega) (by show y≤Y.next; omega)).mono ?_
   rintro _ X ⟨rfl,v2,w2,k2⟩
   replace k2:KpN y F Y X:=k2
   have:=k2.next
   simp (maxDischargeDepth:=6) only[xD,ruW,putL,Nat.reduceLeDiff,xF,ruU,entryE,Nat.reduceLT,Nat.reduceAdd,Nat.reduceMul,Nat.reduceEqDiff]
   exact joinR_normal ⟨by simp only[g9,ruU,entryE,Nat.reduceLT,Nat.reduceAdd,Nat.reduceMul,Nat.reduceEqDiff],k2.mod mY2 hok hHN,by omega,v2,k,w2⟩
  |false =>
   have he:=of_decide_eq_false hd
   rw[hops,curR,if_neg he]
   simp (maxDischargeDepth:=6) only[g3,g9,hyy,ly1,bY1,xD,ruW,putL,Nat.reduceLeDiff,xF,ruU,entryE,Nat.reduceLT,Nat.reduceAdd,Nat.reduceMul,Nat.reduceEqDiff]
   refine (put_c y F (ext Y []) (y+0) v L k (opM r2 c2) w okY2 (by omega) (by show y≤Y.next; omega)).mono ?_
   rintro _ X ⟨rfl,v2,w2,k2⟩
   replace k2:KpN y F Y X:=k2
   have hxn:=k2.next
   have okX:=k2.ok okY2
   rw[show X=ext X [] from rfl]
   simp (maxDischargeDepth:=6) only[g9,xD,ruW,putL,Nat.reduceLeDiff,xF,ruU,entryE,Nat.reduceLT,Nat.reduceAdd,Nat.reduceMul,Nat.reduceEqDiff]
   refine (put_c y F (ext X []) (y+0) v2 _ k (opK 7) w2 okX (by rw[zB7]; simp only[List.length_singleton]; omega) (by show y≤X.next; omega)).mono ?_
   rintro _ X3 ⟨rfl,v3,w3,k3⟩
   replace k3:KpN y F X X3:=k3
   have hxn3:=k3.next
   rw[zG1]at w3
   simp (maxDischargeDepth:=6) only[xD,ruW,putL,Nat.reduceLeDiff,xF,ruU,entryE,Nat.reduceLT,Nat.reduceAdd,Nat.reduceMul,Nat.reduceEqDiff]
   exact joinR_normal ⟨by simp only[g9,ruU,entryE,Nat.reduceLT,Nat.reduceAdd,Nat.reduceMul,Nat.reduceEqDiff],(k2.trans k3).mod mY2 hok hHN,by omega,v3,k,w3⟩
 clear g3 g9 E
 rintro E X ⟨g9,mX,xl,v,k,w⟩
 obtain⟨xx,hxx⟩:∃ n,X.next=n:=⟨_,rfl⟩
 have lx:y+0<xx:=by omega
 have wc:=w.cell
 rw[show X=ext X [] from rfl]
 simp (maxDischargeDepth:=6) only[g9,hxx,lx,wc,Tryd.results13,xD,ruW,putL,Nat.reduceLeDiff,xF,ruU,entryE,Nat.reduceLT,Nat.reduceAdd,Nat.reduceMul,Nat.reduceEqDiff]
 exact⟨mX,v,by rw[hV4],by rw[hV4]; exact w.ops,fun n hn=>by have:=(w.ids n hn).1; omega⟩
def byR (l:List Int):List UInt8:=l.map fun n=>UInt8.ofNat n.toNat
theorem b8 {n:Int} (h0:0≤n) (h1:n<256):((UInt8.ofNat n.toNat).toNat:Int)=n:=by
 rw[UInt8.toNat_ofNat']
 omega
theorem bt_z {n:Int} {t:List UInt8} (h0:0≤n) (h1:n<256):bt (UInt8.ofNat n.toNat::t) 0=n:=b8 h0 h1
theorem bt_s {x:UInt8} {t:List UInt8} {i:Nat}:bt (x::t) (i+1)=bt t i:=by simp[bt]
theorem tl_z {n:Int} {t:List UInt8} (h0:128≤n) (h1:n<192):tl (UInt8.ofNat n.toNat::t) 0=true:=by
 have:=bt_z (n:=n) (t:=t) (by omega) (by omega)
 simp[tl,this,h0,h1]
theorem tl_s {x:UInt8} {t:List UInt8} {i:Nat}:tl (x::t) (i+1)=tl t i:=by
 simp[tl,bt_s]
theorem bt1 {x:UInt8} {t:List UInt8}:bt (x::t) 1=bt t 0:=bt_s
theorem tl1 {x:UInt8} {t:List UInt8}:tl (x::t) 1=tl t 0:=tl_s
theorem bt2 {x:UInt8} {t:List UInt8}:bt (x::t) 2=bt t 1:=bt_s
theorem tl2 {x:UInt8} {t:List UInt8}:tl (x::t) 2=tl t 1:=tl_s
theorem bt3 {x:UInt8} {t:List UInt8}:bt (x::t) 3=bt t 2:=bt_s
theorem tl3 {x:UInt8} {t:List UInt8}:tl (x::t) 3=tl t 2:=tl_s
theorem ptR_enc (c:Int) (hc:isR c=true) (t:List UInt8):ptR (byR (encR c)++t)=(c,((encR c).length:Int)):=by
 have hc':=hc
 unfold isR at hc
 simp only[zA5,decide_eq_true_eq,Bool.not_eq_true',Bool.and_eq_false_imp,decide_eq_false_iff_not]at hc
 obtain⟨⟨c0,c1⟩,c2⟩:=hc
 unfold encR
 by_cases h1:c<128
 ·rw[if_pos h1]
  simp only[byR,zB9,zF5,zF4,zB8,ptR,bt_z (n:=c) (t:=t) (by omega) (by omega)]
  rw[decide_eq_true h1]
  rfl
 rw[if_neg h1]
 by_cases h2:c<2048
 ·rw[if_pos h2]
  have e0:∀ s,bt (UInt8.ofNat (192+c / 64).toNat::s) 0=192+c / 64:=fun s=>bt_z (by omega) (by omega)
  have e1:∀ s,bt (UInt8.ofNat (128+c % 64).toNat::s) 0=128+c % 64:=fun s=>bt_z (by omega) (by omega)
  have f1:∀ s,tl (UInt8.ofNat (128+c % 64).toNat::s) 0=true:=fun s=>tl_z (by omega) (by omega)
  simp only[byR,zB9,zF5,zF4,zB8,ptR,e0,bt1,tl1,e1,f1]
  rw[decide_eq_false (show ¬192+c / 64<128 by omega),decide_eq_true (show 194≤192+c / 64 by omega),decide_eq_true (show 192+c / 64<224 by omega)]
  simp only[cond_false,zD5,cond_true,zB4,zC3]
  rw[show (192+c / 64-192)*64+(128+c % 64)-128=c by omega]
  rfl
 rw[if_neg h2]
 by_cases h3:c<65536
 ·rw[if_pos h3]
  have e0:∀ s,bt (UInt8.ofNat (224+c / 4096).toNat::s) 0=224+c / 4096:=fun s=>bt_z (by omega) (by omega)
  have e1:∀ s,bt (UInt8.ofNat (128+c / 64 % 64).toNat::s) 0=128+c / 64 % 64:=fun s=>bt_z (by omega) (by omega)
  have e2:∀ s,bt (UInt8.ofNat (128+c % 64).toNat::s) 0=128+c % 64:=fun s=>bt_z (by omega) (by omega)
  have f1:∀ s,tl (UInt8.ofNat (128+c / 64 % 64).toNat::s) 0=true:=fun s=>tl_z (by omega) (by omega)
  have f2:∀ s,tl (UInt8.ofNat (128+c % 64).toNat::s) 0=true:=fun s=>tl_z (by omega) (by omega)
  simp only[byR,zB9,zF5,zF4,zB8,ptR,e0,bt1,bt2,tl1,tl2,e1,e2,f1,f2]
  have hv:((224+c / 4096-224)*64+(128+c / 64 % 64)-128)*64+(128+c % 64)-128=c:=by omega
  rw[hv,decide_eq_false (show ¬224+c / 4096<128 by omega),decide_eq_false (show ¬224+c / 4096<224 by omega),decide_eq_true (show 224≤224+c / 4096 by omega),decide_eq_true (show 224+c / 4096<240 by omega),decide_eq_true (show 2048≤c by omega),hc']
  simp only[cond_false,zD5,cond_true,Bool.and_false,Bool.false_and,zB4,zC3]
  rfl
 rw[if_neg h3]
 have e0:∀ s,bt (UInt8.ofNat (240+c / 262144).toNat::s) 0=240+c / 262144:=fun s=>bt_z (by omega) (by omega)
 have e1:∀ s,bt (UInt8.ofNat (128+c / 4096 % 64).toNat::s) 0=128+c / 4096 % 64:=fun s=>bt_z (by omega) (by omega)
 have e2:∀ s,bt (UInt8.ofNat (128+c / 64 % 64).toNat::s) 0=128+c / 64 % 64:=fun s=>bt_z (by omega) (by omega)
 have e3:∀ s,bt (UInt8.ofNat (128+c % 64).toNat::s) 0=128+c % 64:=fun s=>bt_z (by omega) (by omega)
 have f1:∀ s,tl (UInt8.ofNat (128+c / 4096 % 64).toNat::s) 0=true:=fun s=>tl_z (by omega) (by omega)
 have f2:∀ s,tl (UInt8.ofNat (128+c / 64 % 64).toNat::s) 0=true:=fun s=>tl_z (by omega) (by omega)
 have f3:∀ s,tl (UInt8.ofNat (128+c % 64).toNat::s) 0=true:=fun s=>tl_z (by omega) (by omega)
 simp only[byR,zB9,zF5,zF4,zB8,ptR,e0,bt1,bt2,bt3,tl1,tl2,tl3,e1,e2,e3,f1,f2,f3]
 have hv:(((240+c / 262144-240)*64+(128+c / 4096 % 64)-128)*64+(128+c / 64 % 64)-128)*64+(128+c % 64)-128=c:=by omega
 rw[hv,decide_eq_false (show ¬240+c / 262144<128 by omega),decide_eq_false (show ¬240+c / 262144<224 by omega),decide_eq_false (show ¬240+c / 262144<240 by omega),decide_eq_true (show 240≤240+c / 262144 by omega),decide_eq_true (show 240+c / 262144<245 by omega),decide_eq_true (show 65536≤c by omega),hc']
 simp only[cond_false,zD5,cond_true,Bool.and_false,Bool.false_and,zB4,zC3]
 rfl
theorem ptsR_enc:∀ (l:List Int),(∀ c∈l,isR c=true)→ptsR (byR (l.flatMap encR))=some l
 |[],_=>rfl
 |c::l,h=>by
  have hc:=h c (by simp)
  have ih:=ptsR_enc l fun q hq=>h q (zB3 _ hq)
  have hb:byR ((c::l).flatMap encR)=byR (encR c)++byR (l.flatMap encR):=by simp[byR]
  have hl:=encR_len c
  have hlen:(byR (encR c)).length=(encR c).length:=by simp[byR]
  rw[hb,ptsR_step _ (by rw[zB7]; omega),ptR_enc c hc]
  simp only
  rw[if_neg (by omega),zE7,←hlen,List.drop_left,ih]
  rfl
theorem strR_pts (l:List Int) (h:∀ c∈l,isR c=true):ptsR (strR l).data.toList=some l:=by
 have:=ptsR_enc l h
 unfold byR at this
 exact this
def hd0:List Ce→List Ce
 |[]=>[]
 |c::l=>(if c.rune=-1 then Ce.sp else c)::l
def nh (l:List Ce):Prop:=∀ c,l[0]?=some c→c.rune≠-1
theorem hd0_len (l:List Ce):(hd0 l).length=l.length:=by cases l<;>rfl
theorem hd0_nh (l:List Ce):nh (hd0 l):=by
 cases l with
 |nil=>intro c h; cases h
 |cons x l =>
  intro c h
  simp only[hd0,zF0,Option.some.injEq]at h
  subst h
  split
  ·decide
  ·assumption
theorem nh_hd0 {l:List Ce} (h:nh l):hd0 l=l:=by
 cases l with
 |nil=>rfl
 |cons x l=>rw[hd0,if_neg (h x rfl)]
theorem hd0_drop (l:List Ce) (n:Nat):hd0 ((hd0 l).drop n)=hd0 (l.drop n):=by
 cases l with
 |nil=>rfl
 |cons x l =>
  cases n with
  |zero=>exact nh_hd0 (hd0_nh _)
  |succ n=>simp[hd0]
theorem set_at (P:List Ce) (x:Ce) (Y:List Ce) (c:Ce):(P++x::Y).set P.length c=P++c::Y:=by
 rw[List.set_append_right _ _ (zA4 _),zF7,List.set_cons_zero]
theorem set_at1 (P:List Ce) (x y:Ce) (Y:List Ce) (c:Ce):(P++x::y::Y).set (P.length+1) c=P++x::c::Y:=by
 rw[List.set_append_right _ _ (Nat.le_add_right _ _),zG3,List.set_cons_succ,List.set_cons_zero]
theorem getD_at (P:List Ce) (x:Ce) (Y:List Ce) (d:Ce):(P++x::Y).getD P.length d=x:=by
 rw[zC9,List.getElem?_append_right (zA4 _),zF7]; rfl
theorem getD_at1 (P:List Ce) (x:Ce) (Y:List Ce) (d:Ce):(P++x::Y).getD (P.length+1) d=Y.getD 0 d:=by
 rw[zC9,List.getElem?_append_right (Nat.le_add_right _ _),zG3,zF8,zC9]
theorem setP_at {P Y:List Ce} {x c:Ce} (hx:x.rune≠-1):setL (P++x::Y) P.length c=P++c::hd0 Y:=by
 unfold setL
 have h1:halfL (P++x::Y) P.length=P++x::Y:=by rw[halfL,getD_at,if_neg (fun h=>hx h.2)]
 rw[h1]
 have h2:halfR (P++x::Y) P.length=P++x::hd0 Y:=by
  rw[halfR,getD_at1]
  cases Y with
  |nil=>rw[if_neg (by decide)]; rfl
  |cons y Y =>
   rw[hd0,show (y::Y).getD 0 Ce.sp=y from rfl]
   split
   ·rw[set_at1]
   ·rfl
 rw[h2,set_at]
theorem putC_1 {P Y:List Ce} {x:Ce} {k:Lk} {c:Int} (hc:cellsR c≠2) (hx:x.rune≠-1):putC k (P++x::Y) P.length c=P++k.ce c::hd0 Y:=by
 rw[putC,if_neg hc,setP_at hx,set_at]
theorem putC_2 {P Y:List Ce} {x y:Ce} {k:Lk} {c:Int} (hc:cellsR c=2) (hx:x.rune≠-1):putC k (P++x::y::Y) P.length c=P++k.ce c::k.ce (-1)::hd0 Y:=by
 rw[putC,if_pos hc,setP_at hx,hd0]
 generalize hy:(if y.rune=-1 then Ce.sp else y)=y'
 have hy':y'.rune≠-1:=by rw[←hy]; split; decide; assumption
 have e:P++Ce.sp::y'::Y=(P++[Ce.sp])++y'::Y:=by simp
 have el:P.length+1=(P++[Ce.sp]).length:=by simp
 rw[e,el,setP_at hy',←el]
 have e2:(P++[Ce.sp])++Ce.sp::hd0 Y=P++Ce.sp::Ce.sp::hd0 Y:=by simp
 rw[e2,set_at1,set_at]
theorem whole_cases {c:Ce} {l:List Ce} (h:wholeB (c::l)=true):cellsR c.rune≠0∧colr c.look=true∧c.rune≠-1∧((cellsR c.rune≠2∧wholeB l=true)∨(cellsR c.rune=2∧∃ l',l=c.look.ce (-1)::l'∧wholeB l'=true)):=by
 rw[wholeB_cons]at h
 split at h
 ·cases h
 rename_i h0
 simp only[Bool.or_eq_true,decide_eq_true_eq,not_or,Bool.not_eq_true',Bool.not_eq_false]at h0
 refine⟨h0.1,h0.2,fun e=>h0.1 (by rw[e]; decide),?_⟩
 split at h
 ·rename_i h2
  cases l with
  |nil=>cases h
  |cons d l' =>
   simp only[zA5,decide_eq_true_eq]at h
   exact .inr ⟨h2,l',by rw[h.1],h.2⟩
 ·rename_i h2
  exact .inl ⟨h2,h⟩
theorem cells12 {c:Int} (h0:cellsR c≠0) (h2:cellsR c≠2):cellsR c=1:=by
 unfold cellsR at *
 split
 ·rename_i h; rw[if_pos h]at h0; exact absurd rfl h0
 ·rename_i h
  rw[if_neg h]at h0 h2
  rcases widthR_cases c with h|h|h
  ·exact absurd h h0
  ·exact h
  ·exact absurd h h2
theorem whole_app:∀ (n:Nat) (A B:List Ce),A.length≤n→wholeB (A++B)=true→nh B→wholeB A=true∧wholeB B=true
 |_,[],B,_,h,_=>⟨rfl,h⟩
 |0,_::_,_,hn,_,_=>by simp at hn
 |n+1,x::A,B,hn,h,hB=>by
  obtain⟨h0,hk,hr,h1|⟨h2,l',e,h1⟩⟩:=whole_cases (l:=A++B) h
  ·have:=whole_app n A B (by simpa using hn) h1.2 hB
   refine⟨?_,this.2⟩
   rw[wholeB_cons,if_neg (by simp[h0,hk]),if_neg h1.1]
   exact this.1
  ·cases A with
   |nil =>
    rw[zB8]at e
    exact absurd rfl (hB _ (by rw[e]; rfl))
   |cons d A =>
    rw[zF4,List.cons.injEq]at e
    obtain⟨rfl,rfl⟩:=e
    have:=whole_app n A B (by simp at hn; omega) h1 hB
    refine⟨?_,this.2⟩
    rw[wholeB_cons,if_neg (by simp[h0,hk]),if_pos h2]
    simp[this.1]
theorem ce_look (c:Ce):c.look.ce c.rune=c:=rfl
theorem putAll_at:∀ (n:Nat) (L:List Ce) (P Z:List Ce) (k:Lk),L.length≤n→wholeB L=true→(∀ c∈L,c.look=k)→nh Z→L.length≤Z.length →
  putAll k (runesR L) (P++Z) P.length=(P++L++hd0 (Z.drop L.length),P.length+L.length)
 |_,[],P,Z,k,_,_,_,hZ,_=>by simp[runesR,putAll,nh_hd0 hZ]
 |0,_::_,_,_,_,hn,_,_,_,_=>by simp at hn
 |n+1,c::L,P,Z,k,hn,hw,hk,hZ,hl=>by
  obtain⟨h0,hcl,hr,h1|⟨h2,l',e,h1⟩⟩:=whole_cases hw
  ·cases Z with
   |nil=>simp at hl
   |cons z Z =>
    have e1:runesR (c::L)=c.rune::runesR L:=by simp[runesR,hr]
    rw[e1,putAll,putC_1 h1.1 (hZ z rfl),cells12 h0 h1.1]
    have hc:k.ce c.rune=c:=by rw[←hk c (by simp)]; exact ce_look c
    rw[hc]
    have ih:=putAll_at n L (P++[c]) (hd0 Z) k (by simpa using hn) h1.2 (fun q hq=>hk q (zB3 _ hq)) (hd0_nh _) (by rw[hd0_len]; simpa using hl)
    have e2:P++c::hd0 Z=(P++[c])++hd0 Z:=by simp
    have e3:P.length+1=(P++[c]).length:=by simp
    rw[e2,e3,ih,hd0_drop]
    simp; omega
  ·subst e
   match Z,hl with
   |z::y::Z,hl =>
    have e1:runesR (c::c.look.ce (-1)::l')=c.rune::runesR l':=by
     have:(c.look.ce (-1)).rune=-1:=rfl
     simp[runesR,hr,this]
    rw[e1,putAll,putC_2 h2 (hZ z rfl),h2]
    have hc:k.ce c.rune=c:=by rw[←hk c (by simp)]; exact ce_look c
    have hkl:c.look=k:=hk c (by simp)
    rw[hc]
    have ih:=putAll_at n l' (P++[c,c.look.ce (-1)]) (hd0 Z) k (by simp at hn; omega) h1 (fun q hq=>hk q (zB3 _ (zB3 _ hq))) (hd0_nh _) (by rw[hd0_len]; simpa using hl)
    have e2:P++c::k.ce (-1)::hd0 Z=(P++[c,c.look.ce (-1)])++hd0 Z:=by rw[hkl]; simp
    have e3:P.length+2=(P++[c,c.look.ce (-1)]).length:=by simp
    rw[e2,e3,ih,hd0_drop]
    simp; omega
   |[z],hl=>simp at hl
   |[],hl=>simp at hl
theorem fits_at:∀ (n:Nat) (L:List Ce) (W:Nat) (i:Nat),L.length≤n→wholeB L=true→i+L.length≤W→St.fits W (runesR L) i=true
 |_,[],W,i,_,_,_=>by simp[runesR,St.fits]
 |0,_::_,_,_,hn,_,_=>by simp at hn
 |n+1,c::L,W,i,hn,hw,hl=>by
  simp only[zB4]at hl hn
  obtain⟨h0,hcl,hr,h1|⟨h2,l',e,h1⟩⟩:=whole_cases hw
  ·have e1:runesR (c::L)=c.rune::runesR L:=by simp[runesR,hr]
   have hc1:=cells12 h0 h1.1
   rw[e1,St.fits,if_neg (by simp[hc1]; omega),hc1]
   have:=fits_at n L W (i+1) (by omega) h1.2 (by omega)
   exact_mod_cast this
  ·subst e
   have e1:runesR (c::c.look.ce (-1)::l')=c.rune::runesR l':=by
    have:(c.look.ce (-1)).rune=-1:=rfl
    simp[runesR,hr,this]
   simp only[zB4]at hl hn
   rw[e1,St.fits,if_neg (by simp[h2]; omega),h2]
   have:=fits_at n l' W (i+2) (by omega) h1 (by omega)
   exact_mod_cast this
theorem span_whole:∀ (n:Nat) (L:List Ce) (k:Lk),L.length≤n→wholeB L=true→wholeB (L.take (spanR k L))=true∧wholeB (L.drop (spanR k L))=true∧∀ q∈L.take (spanR k L),q.look=k
 |_,[],k,_,_=>by simp[spanR,wholeB]
 |0,_::_,_,hn,_=>by simp at hn
 |n+1,c::L,k,hn,hw=>by
  by_cases hk:c.look=k
  ·have hw':=hw
   obtain⟨h0,hcl,hr,h1|⟨h2,l',e,h1⟩⟩:=whole_cases hw
   ·have ih:=span_whole n L k (by simpa using hn) h1.2
    rw[spanR,if_pos hk,List.take_succ_cons,List.drop_succ_cons]
    refine⟨?_,ih.2.1,fun q hq=>?_⟩
    ·rw[wholeB_cons,if_neg (by simp[h0,hcl]),if_neg h1.1]
     exact ih.1
    ·rcases zB1.1 hq with rfl|hq
     ·exact hk
     ·exact ih.2.2 q hq
   ·subst e
    have ih:=span_whole n l' k (by simp at hn; omega) h1
    have hk2:(c.look.ce (-1)).look=k:=hk
    rw[spanR,if_pos hk,spanR,if_pos hk2,List.take_succ_cons,List.drop_succ_cons,List.take_succ_cons,List.drop_succ_cons]
    refine⟨?_,ih.2.1,fun q hq=>?_⟩
    ·rw[wholeB_cons,if_neg (by simp[h0,hcl]),if_pos h2]
     simp[ih.1]
    ·rcases zB1.1 hq with rfl|hq
     ·exact hk
     rcases zB1.1 hq with rfl|hq
     ·exact hk2
     ·exact ih.2.2 q hq
  ·rw[spanR,if_neg hk]
   exact⟨rfl,hw,fun q hq=>by simp at hq⟩
end Go.Proofs.YtaojjfebkldmnaaDoor
