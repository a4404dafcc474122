/- Parts of the proof, one behind the other. -/
import Derived.Test.YtpohjcacnkhnkaaGreatDoorM3
import Derived.Test.YtpohjcacnkhnkaaGreatDoorRows
import Derived.Shelf.Strconv.Itoa1
import Derived.Shelf.Strconv.Itoa2
import Derived.Lib.ItoaMem
import Derived.ChangeArms
set_option linter.all false
set_option maxRecDepth 10000
set_option maxHeartbeats 16000000
open Option renaming some->a9,none->bi
open Bool renaming true->bv,false->ci
open Decidable renaming decide->f7
open Go renaming Value->go,TypeId->io,Program->ip,World->i6,Operand->i7
open Option.some renaming injEq->i8
open Prod.mk renaming injEq->i9
open Go.Value renaming int->jp,pointer->li,slice->lm,bool->ls
open Go.IntKind renaming i64->kw
open And renaming intro -> zA0
open Option renaming bind_eq_bind -> zA1, bind_eq_some_iff -> zA2, bind_some -> zA3, map_some -> zB2, map_eq_some_iff -> zB5, getD_some -> zH9
open Nat renaming le_refl -> zA4, le_of_ble_eq_true -> zA7, zero_le -> zB7, lt_or_ge -> zC0, zero_add -> zC2, le_trans -> zC4, add_zero -> zD5, lt_of_lt_of_le -> zE0, ble_eq -> zE8, mul_one -> zF0, lt_succ_self -> zF3, le_of_eq -> zF6, min -> zF9, add_sub_cancel_left -> zG2, sub_self -> zG8, min_eq_left -> zH0, zero_mul -> zH1
open List renaming mem_singleton -> zA5, mem_cons -> zA8, length_cons -> zA9, getElem?_eq_getElem -> zB0, mem_append -> zB1, length_append -> zB3, length_nil -> zB4, nil_append -> zB6, map_cons -> zB8, mem_cons_of_mem -> zB9, mem_map -> zC1, all_eq_true -> zC3, mem_of_getElem? -> zC5, length_drop -> zC6, append_nil -> zC7, append_assoc -> zC8, getD_eq_getElem?_getD -> zC9, drop_zero -> zD0, getElem?_eq_none -> zD3, take_of_length_le -> zD4, nodup_cons -> zD6, not_mem_nil -> zD7, length_take -> zD9, length_map -> zE1, mem_of_mem_take -> zE2, cons_append -> zE3, mem_of_mem_drop -> zE4, eq_nil_of_length_eq_zero -> zE5, nodup_append -> zE6, map_nil -> zE7, drop_eq_nil_of_le -> zE9, length_replicate -> zF1, mem_cons_self -> zF2, getElem?_eq_some_iff -> zF5, mem_range -> zF7, mem_append_left -> zF8, getElem?_map -> zG0, getElem?_cons_zero -> zG1, mem_flatMap -> zG3, take_add_one -> zG4, getElem?_append_right -> zG5, mem_append_right -> zG6, take_append_drop -> zG9, take_length -> zH2, drop_drop -> zH3, drop_eq_getElem_cons -> zH4, eq_of_mem_replicate -> zH6, getElem?_cons_succ -> zH8, length_singleton -> zI0
open Bool renaming and_eq_true -> zA6, not_true -> zD1, false_eq_true -> zD2, and_self -> zD8, not_false -> zF4, or_eq_true -> zH5, or_false -> zH7
open Int renaming toNat_natCast -> zG7
namespace Go.Ax
section
variable{P:ip}{H:aa}
def La{st xt e:io}{by1 cnt x:Nat}{z v:go}{vs:List go}{s:ByteArray}(R:P.underlying st=a9 (.slice e))(k:br P e=a9 1)(p:bytesOf P e=a9 by1)(S:zeroOf P e=a9 z)(q:z.cells.toList.length=1)(hi:fE P xt=a9 ci)
  (h:cz H e 1 v vs cnt) (U:0<s.size) (b:small (cnt+s.size) by1=bv) (hx:H.next=x) (y:aT H.next vs=bv) :
  ∃ G,aE P H .append ⟨[st,xt]⟩ [v,.string s]=a9 (lm (a9 ⟨x,0,bi⟩) (cnt+s.size) (cnt+s.size),G)/\cz G e 1 (lm (a9 ⟨x,0,bi⟩) (cnt+s.size) (cnt+s.size)) (vs++ak s.data.toList) (cnt+s.size)/\(H.base<=H.next->Mod (ae v) H G)/\G.next=x+1:=by
 have A:s.data.toList.length=s.size:=by rw[Array.length_toList]; rfl
 have B:s.data.toList.take s.size=s.data.toList:=zD4 lw;have c:(ak s.data.toList).length=s.size:=by rw[ak,zE1,A]
 have a:(ak s.data.toList).all one=true:=zC3.2 fun V g=>by obtain⟨w',_,rfl⟩:=zC1.1 g;rfl
 have r:cK H 1 s.size (.string s)=a9 (ak s.data.toList):=by simp only[cK,B]
 have C:cK H 1 0 (lm bi 0 0)=a9 []:=rfl;have t:∀ n,aT n (ak s.data.toList)=true:=fun n=>by rw[ck];intro V g;obtain⟨w',_,rfl⟩:=zC1.1 g;rfl
 obtain⟨u,h2,⟨rfl,rfl⟩|⟨Z,m,rfl,D,W⟩⟩:=h
 .have Y:vs=[]:=zE5 (by simpa using u);subst Y;rw[zB6,zC2];rw[zC2]at b;have F:=ey (H:=H) (L:=[]) (e:=e) (l:=ak s.data.toList) (o:=true) (t _);refine⟨ext H [⟨e,bv,ak s.data.toList⟩],?_,⟨by omega,a,.inr ⟨U,x,rfl,?_,by rw[ai,hx]; simp⟩⟩,fun j=>Mod.ext j,by rw[ai,hx]; rfl⟩
  .simp only[aE,e7,R,k,p,S,hi,zA1,zA3,jD,r,c,q,zC2,b,zF0,and_self,if_true,dv];rw[if_neg lw];simp only[C,zA3,zB4,List.all_nil,a,decide_true,zD8,if_true,zB6];rw[show cJ H e (ak s.data.toList) bv=cJ (ext H []) e (ak s.data.toList) bv from rfl,F,hx];rfl
  .rw[show x=x+0 from rfl,aZ hx nl]; rfl
 .obtain⟨rv,I,J⟩:=ni D;have M:=jx D;have O:=fF (sz:=1) (cnt:=cnt) (off:=0) (len:=cnt) (cap:=cnt) (s:=bi) D (by simp only; omega);simp only[zD0]at O;rw[zD4 lw]at O;have F:=ey (H:=dp H m) (L:=[]) (e:=e) (l:=vs++ak s.data.toList) (o:=true) (by rw[jN]; exact cb (by simpa using y) (t _));have T:Mod (ae (lm (a9 ⟨m,0,bi⟩) cnt cnt)) H (dp H m):=Mod.cH pm;refine⟨ext (dp H m) [⟨e,bv,vs++ak s.data.toList⟩],?_,⟨by rw[zB3,u,c,Nat.add_mul]; omega,by rw[List.all_append,h2,a]; rfl,.inr ⟨by omega,x,rfl,?_,by rw[ai,jN,hx]; simp⟩⟩,fun j=>T.trans (Mod.ext (T.ok j)),by rw[ai,jN,hx]; rfl⟩
  .simp only[aE,e7,R,k,p,S,hi,zA1,zA3,jD,r,c,q,b,zF0,and_self,if_true,dv];rw[if_neg lw];rw[zF0]at u;simp only[O,zA3,u,h2,a,decide_true,zD8,if_true,fR,cX,M,zB2,zD1,I];rw[if_pos ⟨trivial,by rw[zE8,J]; simp only; omega⟩];rw[show H.cH m bi=ext (dp H m) [] from rfl,F,hx];rfl
  .rw[show x=x+0 from rfl,aZ (show (dp H m).next=x from hx) nl]; rfl
end
end Go.Ax
namespace Go.Proofs.YtpohjcacnkhnkaaGreatDoor.Tq
open Go.Ax
set_option maxRecDepth 100000
abbrev N3:DataW Unit:=Rows.laid_internal_strconv_uint64pow10
def Pow(H:aa):Prop:=2<H.next/\∃ e,bk H 2=a9 ⟨e,ci,dc N3⟩
def Pow.of{H G:aa}(h:Pow H)(c:H.next<=G.next)(a:G.get 2=H.get 2):Pow G:=by obtain⟨g,e,b⟩:=h;exact⟨by omega,e,(bg a).trans b⟩
def Pow.mod{H G:aa}{W:List Nat}(h:Pow H)(m:Mod W H G)(a:2∉W):Pow G:=h.of m.next (m.get 2 h.1 a)
def O3:dc N3=Go.Lib.pow10Tab.map fun z=>Value.int .u64 z:=by kernel_rfl
def MC{ρ:Go.Ax.Ren}{H:aa}{w:i6}(r:Rel Tryz.prog ρ H w)(t:Pow H):Go.Lib.TabIs Tryz.prog w "internal/strconv.uint64pow10" .u64 Go.Lib.pow10Tab:=by
 obtain⟨_,e,h⟩:=t;obtain⟨c,a,b⟩:=qX r (show 2<Tryz.prog.globals.size by decide +kernel) h m9;have g:Tryz.prog.globalNamed "internal/strconv.uint64pow10" = a9 2:=by kernel_rfl
 have j:c=(Go.Lib.pow10Tab.map fun z=>Value.int .u64 z).toArray:=by rw[<-O3,<-b]
 unfold Go.Lib.TabIs World.var?;rw[g];simp[a,j]
def SL:Go.Shelf.Ren:=⟨fun n=>if n=129 then 168 else if n=283 then 163 else if n=284 then 164 else if n=285 then 165 else if n=317 then 167 else if n=318 then 169 else 0,fun n=>if n=37 then 25 else if n=46 then 138 else if n=51 then 170 else if n=53 then 173 else if n=212 then 195 else n,fun n=>if n=17 then 2 else n⟩
def Vm:Go.Proofs.Lays.n283 Tryz.prog SL:=by
 constructor
 all_goals first
  |exact mixed
  |kernel_rfl
  |(intro w; kernel_rfl)
def Uv:Go.Proofs.Lays.n284 Tryz.prog SL:=by
 constructor
 all_goals first
  |exact mixed
  |kernel_rfl
  |(intro w; kernel_rfl)
def Vx:Go.Proofs.LaysM.n284 Tryz.prog SL:=by
 constructor
 all_goals first
  |exact Uv
  |exact mixed
  |kernel_rfl
  |(intro w; kernel_rfl)
def VR:Go.Proofs.Lays.n285 Tryz.prog SL:=by
 constructor
 all_goals first
  |exact mixed
  |kernel_rfl
  |(intro w; kernel_rfl)
def Fs{f:FuncId}{args:List go}{H:aa}{v:go}(a:∀ x∈args,af x=bv)(b:af v=bv)(c:∀ n,aV n v=bv)(g:∀ ρ w,Rel Tryz.prog ρ H w->Calls Tryz.prog f ⟨args⟩ w fun e w'=>e=.returned v/\w'=w):Pure f args H v:=by intro ρ w r h F m R j k;rw[vM ρ _ a];refine (j.calls (g ρ w r)).mono ?_;rintro e w' ⟨rfl,rfl⟩;have:=k ρ w' (St.below r ⟨rfl,rfl,rfl,zA4 _,fun _ _=>rfl⟩) (c _);rwa [dM ρ _ b]at this
def RY(H:aa)(i:Nat)(h:i<100):Pure 163 [jp kw i] H (.string ⟨(Go.Lib.decDigits i).toArray⟩) :=
 Fs (fun x hx=>by simp only[zA8,zD7,or_false]at hx; subst hx; rfl) rfl (fun _=>rfl) fun _ w _=>Go.Proofs.Any.internal_strconv_small Vm i h w
def UO(H:aa)(t:Pow H)(u:Nat)(a:1<=u)(b:u<18446744073709551616):Pure 164 [.int .u64 u] H (jp kw (Go.Lib.nDigits u)) :=
 Fs (fun x hx=>by simp only[zA8,zD7,or_false]at hx; subst hx; rfl) rfl (fun _=>rfl) fun _ w r=>Go.Proofs.Any.internal_strconv_numDigits Vx u a b w (MC r t)
def DG(c:Array go)(off:Nat)(d:Array UInt8)(i:Nat)(hi:i<c.size):(Go.Sort.putCells (fun b:UInt8=>Value.int .u8 (b.toNat:Int)) off d c)[i]?=if off<=i/\i<off+d.size then a9 (.int .u8 (d[i-off]!.toNat:Int)) else c[i]?:=by unfold Go.Sort.putCells;rw[Array.getElem?_mapIdx,Array.getElem?_eq_getElem hi];simp only[zB2];split<;>rfl
def xN{D:List UInt8}{j:Nat}(h:j<D.length):(ak D).getD j undef=.int .u8 (D[j].toNat:Int):=by rw[zC9,ak,zG0,zB0 h];rfl
def VE(H:aa)(b n u cap:Nat)(D:List UInt8)(e:io)(hb:bk H b=a9 ⟨e,ci,ak D⟩)(U:n=Go.Lib.nDigits u)(hD:n<=D.length)(hu:u<18446744073709551616)(hD2:D.length<=1000) :
  bD Tryz.prog 165 [lm (a9 ⟨b,0,a9 0⟩) n cap,.int .u64 u] H (.ok (.tuple #[])) (uw H b 0 (ak (Go.Lib.decDigits u))):=by
 intro ρ w r hsc F m R hF hR;obtain⟨rv,A,g,B⟩:=sw hb;simp only at g B;obtain⟨cc,ff,I⟩:=eI A;have V:¬Fz (H.get b):=oJ A;obtain⟨o',hw,y⟩:=r.obj _ _ I;simp only[Fits]at y;obtain⟨c,fz,rfl,J,W,hop⟩:=y;obtain⟨k1,L,k3,rfl⟩:=W trivial;have a:(ak D).length=D.length:=by simp[ak]
 have C:∀ j,j<n->∃ x:UInt8,D[j]?=a9 x/\c[j]?=a9 (.int .u8 (x.toNat:Int)):=fun j k=>by
  have l:j<D.length:=by omega
  refine⟨D[j],zB0 l,?_⟩;have M:=J j (by rw[g,a]; omega);rw[L,zD5]at M;rw[M,B j (by rw[a]; exact l)];rw[xN l,Ren.val]
 obtain⟨d,hd⟩:∃ d:Array UInt8,d=(D.take n).toArray:=⟨_,rfl⟩
 have p:d.size=n:=by rw[hd]; simp; omega
 have hH:Go.Sort.Holds (fun (b:UInt8)=>Value.int .u8 (b.toNat:Int)) w (ρ.blk b) 0 d:=fun j k=>by
  rw[p]at k;obtain⟨x,hx,Y⟩:=C j k
  have Z:d[j]! = x:=by
   have h2:d[j]?=a9 x:=by rw[hd,List.getElem?_toArray,List.getElem?_take,if_pos k,hx]
   rw[getElem!_def,h2]
  rw[Z];simp only[World.cell?,World.frozen?,hw,zC2,Y];exact⟨rfl,by simp⟩
 have hc:=Go.Proofs.Any.internal_strconv_formatBase10 VR (ρ.blk b) 0 cap u d w hH (by rw[p,U]; exact Go.Lib.lt_pow_nDigits u) hu (by rw[p]; omega);have hA:[Value.slice (a9 ⟨b,0,a9 0⟩) n cap,.int .u64 (u:Int)].map ρ.val=[lm (a9 ⟨ρ.blk b,0,bi⟩) d.size cap,.int .u64 (u:Int)]:=by simp[Ren.val,L,p]
 rw[hA];refine (hF.calls hc).mono ?_;rintro en w' ⟨rfl,q,v',s,rfl,hf⟩;have hdk:s.size=n:=by rw[hf.size,p]
 rw[p,U]at hf
 have z:∀ j,j<n->(ak (Go.Lib.decDigits u)).getD j undef=.int .u8 (s[j]!.toNat:Int):=fun j k=>by
  have l:j<(Go.Lib.decDigits u).length:=by rw[Go.Lib.decDigits_length]; omega
  rw[zC9,ak,zG0,zB0 l,Go.Lib.row_is_numeral hf j l];rfl
 have hu1:uw H b 0 (ak (Go.Lib.decDigits u))=H.cH b (a9 ⟨.cells #[] e,ci,rv.fZ 0 (ak (Go.Lib.decDigits u))⟩):=by simp only[uw,A]
 have t:(Go.Sort.putRow (fun (b:UInt8)=>Value.int .u8 (b.toNat:Int)) w (ρ.blk b) 0 s).heap=w.heap.modify (ρ.blk b) (Go.Sort.onCells (Go.Sort.putCells (fun b:UInt8=>Value.int .u8 (b.toNat:Int)) 0 s)):=rfl;have O:(Go.Sort.putRow (fun (b:UInt8)=>Value.int .u8 (b.toNat:Int)) w (ρ.blk b) 0 s).heap[ρ.blk b]?=a9 (.cells (Go.Sort.putCells (fun b:UInt8=>Value.int .u8 (b.toNat:Int)) 0 s c) e (0,0)):=by rw[t,Array.getElem?_modify,if_pos rfl,hw];rfl
 have S:(Go.Sort.putCells (fun b:UInt8=>Value.int .u8 (b.toNat:Int)) 0 s c).size=c.size:=by simp[Go.Sort.putCells]
 have T:(ak (Go.Lib.decDigits u)).length=n:=by rw[ak,zE1,Go.Lib.decDigits_length,U]
 have hst:=St.cH r (n:=b) (o:=⟨.cells #[] e,ci,rv.fZ 0 (ak (Go.Lib.decDigits u))⟩) (w1:=(Go.Sort.putRow (fun (b:UInt8)=>Value.int .u8 (b.toNat:Int)) w (ρ.blk b) 0 s).drewN q) (bJ I) V (by
   simp only[l6];intro j k;rw[RV.qj,g,a]at k;rw[RV.nI,T,Nat.sub_zero];split
   .rename_i h;rw[z j lw];rfl
   .rw[B j (by rw[a]; exact k)];rw[xN k]
    rfl) (o':=.cells (Go.Sort.putCells (fun b:UInt8=>Value.int .u8 (b.toNat:Int)) 0 s c) e (0,0)) (by
  simp only[Fits];refine⟨_,_,rfl,fun j k=>?_,fun _=>⟨?_,L,k3,rfl⟩,fun h=>(by cases h)⟩
  .rw[RV.qj,g,a]at k;rw[L,zD5,DG _ _ _ _ (by rw[k1,g,a]; exact k),RV.nI,T,hdk,Nat.sub_zero];split
   .rename_i h;rw[z j lw,Ren.val]
   .have M:=J j (by rw[g,a]; exact k);rw[L,zD5]at M;exact M
  .rw[S,RV.qj]; exact k1) O (by show (Go.Sort.putRow _ w (ρ.blk b) 0 s).heap.size=_; rw[t,Array.size_modify]) (fun b' hb'=>by show (Go.Sort.putRow _ w (ρ.blk b) 0 s).heap[b']?=_; rw[t,Array.getElem?_modify,if_neg (fun e=>hb' e.symm)]) rfl rfl rfl
 rw[hu1]at hR;have:=hR _ _ hst rfl;simpa[Ren.val,Ren.ed]using this
set_option maxRecDepth 100000
def RG(H:aa)(v:go)(l:List UInt8)(out:Out)(X:aa):Prop:=Mod (ae v) H X/\∃ u,out=.ok u/\cz X 5 1 u (ak l) l.length/\∀ n∈ae u,n∈ae v\/H.next<=n
def Ee(n:Nat)(h:n<=9999):Go.Lib.decDigits n=iJ n:=by
 have e:∀ k,Go.Lib.decDigits k=if k<10 then [UInt8.ofNat (48+k)] else Go.Lib.decDigits (k / 10)++[UInt8.ofNat (48+k % 10)]:=fun k=>by rw[Go.Lib.decDigits];split<;>rfl
 unfold iJ dg;by_cases a:n<10
 .rw[if_pos a,e,if_pos a]
 rw[if_neg a,e n,if_neg a];by_cases b:n<100
 .rw[if_pos b,e,if_pos lw];rfl
 rw[if_neg b,e (n / 10),if_neg lw];by_cases c:n<1000
 .rw[if_pos c,e,if_pos lw,Nat.div_div_eq_div_mul];rfl
 rw[if_neg c,e (n / 10 / 10),if_neg lw,e,if_pos lw];simp only[Nat.div_div_eq_div_mul,zE3,zB6]
def j6(a b:List UInt8):ak (a++b)=ak a++ak b:=by simp[ak]
def xf(a:List UInt8):(ak a).all one=true:=by simp[ak,one]
def pk(n:Nat)(a:List UInt8):aT n (ak a)=true:=by rw[ck];intro c b;obtain⟨w',_,rfl⟩:=zC1.1 b;rfl
def jo(a:List UInt8):(ak a).length=a.length:=by simp[ak]
def EF:List UInt8:=List.replicate 24 0
def Qx(H:aa)(t:Pow H)(v:go)(l:List UInt8)(u:Nat)(A:cz H 5 1 v (ak l) l.length)(hl:l.length<=350000000)(B:u<=9999)(g:H.base<=H.next) :
  bF Tryz.prog 152 [v,.int .u64 u,jp kw 10] H (RG H v (l++iJ u)):=by
 have S:Tryz.prog.underlying 25=a9 (.slice 5):=by kernel_rfl
 have C:br Tryz.prog 5=a9 1:=by kernel_rfl
 have T:bytesOf Tryz.prog 5=a9 1:=by kernel_rfl
 have U:zeroOf Tryz.prog 5=a9 (.int .u8 0):=by kernel_rfl
 have Z:fE Tryz.prog 9=a9 false:=by kernel_rfl
 have a6:fE Tryz.prog 25=a9 false:=by kernel_rfl
 have D:∀ X,bB Tryz.prog X 173 3 (.int .u64 (u:Int))=a9 (jp kw (IntKind.i64.wrap (u:Int)),X):=fun X=>gF (u:=.int .u64) m9 m9;have w1:IntKind.i64.wrap (u:Int)=(u:Int):=by rw[IntKind.wrap_i64]; omega
 have F:0<(iJ u).length:=by unfold iJ; split<;>(try split)<;>(try split)<;>simp
 have hl4:(iJ u).length<=4:=by unfold iJ; split<;>(try split)<;>(try split)<;>simp
 obtain⟨b,m⟩:=ac H.next;obtain⟨va,ev⟩:=A.len;refine aI mixed Tryz.func152 rfl Tryz.ntmps152 (zA7 rfl) ?_;have V:∀ i:Decidable True,@decide True i=true:=fun i=>by simp
 have o:∀ {X:aa} {n:Nat} {W:go},cz X 5 1 W (ak (l++iJ u)) n->n=l.length+(iJ u).length->cz X 5 1 W (ak (l++iJ u)) (l++iJ u).length:=fun h e=>by rw[zB3,<-e];exact h
 by_cases p:u<100
 .have I:f7 ((u:Int)<100)=true:=decide_eq_true lw;have J:(ByteArray.mk (iJ u).toArray).size=(iJ u).length:=by simp[ByteArray.size]
  obtain⟨G,r,L,M,g4⟩:=La (P:=Tryz.prog) (st:=25) (xt:=9) (e:=5) (by1:=1) (z:=.int .u8 0) (s:=⟨(iJ u).toArray⟩) S C T U rfl Z A (by rw[J]; exact F) (by rw[J]; simp only[small,zA6,zE8]; omega) m (pk _ _);simp only[I,V,bp,D,w1,zW,seval];refine (RY (ext H []) u p).to ?_;rw[Ee u B];rw[show H=ext H [] from rfl]at r;simp only[r,Tryz.results152,zW,seval];refine⟨M g,_,rfl,o (by rw[j6]; exact L) (by rw[J]),fun n x=>.inr ?_⟩;simp only[ae,zA5]at x;omega
 .have I:f7 ((u:Int)<100)=false:=decide_eq_false lw;simp only[m,I,V,zW,seval];obtain⟨H1,a⟩:=ac (ext H [⟨189,ci,ak EF⟩]);have O:Mod [] H H1:=a▸Mod.ext g;have n1:H1.next=b+1:=by rw[<-a,ai,m]; rfl
  have Y:bk H1 b=a9 ⟨189,ci,ak EF⟩:=by rw[<-a,show b=b+0 from rfl,aZ m nl]; rfl
  have t1:=t.mod O nl;obtain⟨n,x⟩:=ac (Go.Lib.nDigits u);have hn4:n=(iJ u).length:=by rw[<-x,<-Go.Lib.decDigits_length,Ee u B]
  refine (UO _ (show Pow _ from a▸t1) u lw lw).to ?_;rw[x]
  have sl:∀ X,bX Tryz.prog X 189 (li (a9 ⟨b+0,0,bi⟩)) bi (a9 (jp kw (n:Int))) bi=a9 (lm (a9 ⟨b,0,a9 0⟩) n 24,X):=fun X=>by
   have ua:Tryz.prog.underlying 189=a9 (.array 24 5):=by kernel_rfl
   simp only[bX,ua,bound,C,zA1,zA3];rw[if_pos (Int.natCast_nonneg n),zA3,zG7,if_pos ⟨by omega,zB7 _,trivial⟩];rfl
  simp only[sl,zW,seval];refine (show bD Tryz.prog 165 [lm (a9 ⟨b,0,a9 0⟩) n 24,.int .u64 (u:Int)] _ _ _ from a▸VE H1 b n u 24 EF 189 Y x.symm (by simp only[EF,zF1]; omega) lw (by simp[EF])).to ?_;rw[a];obtain⟨j,c⟩:=ac (uw H1 b 0 (ak (Go.Lib.decDigits u)));have m2:Mod [b] H1 j:=c▸Mod.uw nl;have n2:j.next=b+1:=by rw[<-c,cw,n1]
  rw[Ee u B]at c ⊢;have b2:bk j b=a9 ⟨189,ci,dj (ak EF) 0 (ak (iJ u))⟩:=by rw[<-c,bR,Y]; rfl
  have R:∀ q∈ae v,q<b:=fun q k=>m▸(A.ne q k).2;have v2:cz j 5 1 v (ak l) l.length:=A.of lw fun q k=>by have:=R q k;rw[m2.get q lw t6,O.get q lw nl]
  obtain⟨G,r,L,M,g4,g5⟩:=oO (P:=Tryz.prog) (st:=25) (xt:=25) (e:=5) (sz:=1) (by1:=1) (z:=.int .u8 0) (off:=0) (cap:=24) (s:=a9 0) (cnt2:=n) (ws:=ak (iJ u)) S C T U rfl a6 v2 (iq b2) (by simp only[kN,jo,EF,zF1]; omega) (by
   have h1:dj (ak EF) 0 (ak (iJ u))=_:=qx _ _ _ (by simp only[jo,EF,zF1]; omega);simp only[h1,v8,List.take_zero,zB6,zD0,zF0];rw[List.take_append_of_le_length (by rw[jo]; omega)]
   exact zD4 (by rw[jo]; omega)) (xf _) lw sm n2 (by rw[<-j6]; exact pk _ _)
  rw[c,show j=ext j [] from rfl];rw[show j=ext j [] from rfl]at r;simp only[sl,r,Tryz.results152,zW,seval];refine⟨?_,_,rfl,o (by rw[j6]; exact L) lw,fun q k=>.inr ?_⟩
  .have y:Mod [] H j:=O.step m2 g fun q k=>.inr (by simp only[zA5]at k; omega);exact (y.mono nl).trans (M (y.ok g))
  .simp only[ae,zA5]at k;omega
def Lp(H:aa)(t:Pow H)(v:go)(l:List UInt8)(u:Nat)(j:cz H 5 1 v (ak l) l.length)(k:l.length<=350000000)(n:u<=9999)(c:H.base<=H.next) :
  bF Tryz.prog 87 [v,jp kw u,jp kw 10] H (RG H v (l++iJ u)):=by
 obtain⟨p,ev⟩:=j.len;obtain⟨b,q⟩:=ac H.next;have e:∀ X,bB Tryz.prog X 2 173 (jp kw (u:Int))=a9 (.int .u64 (IntKind.u64.wrap (u:Int)),X):=fun X=>gF (u:=.int kw) m9 m9;have w1:IntKind.u64.wrap (u:Int)=(u:Int):=by rw[IntKind.wrap_u64]; omega
 have o:f7 ((u:Int)<0)=false:=decide_eq_false lw;have g:bF Tryz.prog 121 [v,jp kw u,jp kw 10] H (RG H v (l++iJ u)):=by refine aI mixed Tryz.func121 rfl Tryz.ntmps121 (zA7 rfl) ?_;simp only[o,bp,e,w1,zW,seval];refine (Qx (ext H []) t v l u j k n c).mono ?_;rintro out X ⟨m,w,rfl,a,h⟩;obtain⟨r,s⟩:=a.len;rw[show X=ext X [] from rfl];simp only[Tryz.results121,zW,seval];exact⟨m,w,rfl,a,h⟩
 refine aI mixed Tryz.func87 rfl Tryz.ntmps87 (zA7 rfl) ?_;simp only[zW,seval];refine (show bF Tryz.prog 121 _ (ext H []) _ from g).mono ?_;rintro out X ⟨m,w,rfl,a,h⟩;rw[show X=ext X [] from rfl];simp only[Tryz.results87,zW,seval];exact⟨m,w,rfl,a,h⟩
end Go.Proofs.YtpohjcacnkhnkaaGreatDoor.Tq
namespace Go.Ax
variable{P:ip}{H X:aa}{f:FuncId}{args:List go}
def Rn.K6(w:WF P H)(m:Mod [] H X):Rn id H X H where
 low:=fun _ _=>rfl
 next:=zA4 _
 base:=rfl
 dirty:=fun _ h=>h
 dirt1:=fun n h=>by
  rcases m.dirty n h with h|h
  .exact h
  .simp at h
 get:=fun n a h=>.inl ⟨(w.dom n a h).1,h,by rw[m.get n (w.dom n a h).1 nl,h]⟩
 gH:=fun n _ h=>.inl h
 inj:=fun m n _ _ h=>h
 ro:=fun n _=>⟨.inl,fun _=>rfl⟩
def bD.K6{v:go}(h:bD P f args H (.ok v) X)(m:Mod [] H X)(a:aV H.next v=bv):bD P f args H (.ok v) H:=by refine bD.rn (σ:=id) (H1:=X) ?_ (fun w=>Rn.K6 w m) a;rw[OB a]; exact h
def bF.pure{v:go}(h:bF P f args H fun out X=>out=.ok v/\Mod [] H X)(a:aV H.next v=bv):bD P f args H (.ok v) H:=by obtain⟨_,X,b,rfl,m⟩:=h;exact b.K6 m a
def Fin.mod{v a:go}(b:a=v)(m:Mod [] H X)(c:aV H.next v=bv):Fin P f args H v H (.ok a) X:=fun h=>by rw[b]at h;exact h.K6 m c
end Go.Ax
namespace Go.Ax
open Go.ChangeShapes
section
variable{P:ip}{ρ:Ren}{H:aa}{w:i6}
def Rx:go->Bool
 |.int .u8 _=>bv
 |.int .u64 _=>bv
 |_=>ci
structure Ro (P:ip) (ρ:Ren) (H:aa) (w:i6):Prop where
 rel:Rel P ρ H w
 base:H.base=H.next
 dirty:H.dirty=[]
 al:∀ n,H.get n≠bi->Fz (H.get n)\/n<P.globals.size/\∃ c e,w.heap[n]?=a9 (.cells c e (0,0))/\∀ v∈c.toList,Rx v=bv
variable{K:Type}{enc:io × go -> K}{spare:Nat -> Bool}{held:Bool}{fuel:Nat}
end
def qq(H:aa)(sz:Nat)(v:go)(vs:List go)(cnt:Nat):Prop :=
 vs.length=cnt*sz/\((cnt=0/\∃ a c,v=.slice a 0 c)\/(0<cnt/\∃ n off s c e o M,v=lm (a9 ⟨n,off,s⟩) cnt c/\rk H n=a9 ⟨e,o,M⟩/\n<H.next/\off+cnt*sz<=M.length/\(M.drop off).take (cnt*sz)=vs))
section
variable{P:ip}{H G:aa}{sz cnt:Nat}{v:go}{vs:List go}
def qq.sl(h:qq H sz v vs cnt):∃ a c,v=.slice a cnt c:=by
 obtain⟨_,⟨rfl,a,c,rfl⟩|⟨_,n,off,s,c,e,o,M,rfl,_⟩⟩:=h
 .exact⟨_,_,rfl⟩
 .exact⟨_,_,rfl⟩
def qq.nil{a:Option Addr}{c:Nat}:qq H sz (.slice a 0 c) [] 0:=⟨by simp,.inl ⟨rfl,_,_,rfl⟩⟩
def U9(v:go)(cnt:Nat):List Nat:=if cnt=0 then [] else ae v
def qq.of(h:qq H sz v vs cnt)(l:H.next<=G.next)(b:∀ n∈U9 v cnt,G.get n=H.get n):qq G sz v vs cnt:=by
 obtain⟨a,h|⟨g,n,off,s,c,e,o,M,rfl,j,m,k⟩⟩:=h
 .exact⟨a,.inl h⟩
 .exact⟨a,.inr ⟨g,n,off,s,c,e,o,M,rfl,(kh (b n (by rw[U9,if_neg lw]; simp[ae]))).trans j,by omega,k⟩⟩
def qq.ne(h:qq H sz v vs cnt):∀ n∈U9 v cnt,H.get n≠bi/\n<H.next:=by
 obtain⟨l,⟨rfl,a,c,rfl⟩|⟨p,n,off,s,c,e,o,M,rfl,g,j,q⟩⟩:=h
 .intro n k; simp[U9]at k
 .intro m b;rw[U9,if_neg lw]at b;simp only[ae,zA5]at b;subst b;exact⟨KW g,j⟩
def qq.at_(h:qq H sz v vs cnt){i:Nat}(hi:i<cnt):∃ n off s c e o M,v=lm (a9 ⟨n,off,s⟩) cnt c/\n<H.next/\rk H n=a9 ⟨e,o,M⟩/\off+i*sz+sz<=M.length/\(M.drop (off+i*sz)).take sz=(vs.drop (i*sz)).take sz:=by
 obtain⟨j,⟨rfl,_⟩|⟨k,n,off,s,c,e,o,M,rfl,a,b,l,g⟩⟩:=h
 .omega
 have m:i*sz+sz<=cnt*sz:=by rw[<-Nat.succ_mul]; exact Nat.mul_le_mul_right _ hi
 refine⟨n,off,s,c,e,o,M,rfl,b,a,by omega,?_⟩;rw[<-g,List.drop_take,zH3,List.take_take,zH0 lw]
def qq.one(h:qq H 1 v vs cnt){i:Nat}(hi:i<cnt):∃ n off s c e o M,v=lm (a9 ⟨n,off,s⟩) cnt c/\n<H.next/\rk H n=a9 ⟨e,o,M⟩/\M[off+i]?=vs[i]?:=by obtain⟨n,off,s,c,e,o,M,b,g,j,k,a⟩:=h.at_ hi;refine⟨n,off,s,c,e,o,M,b,g,j,?_⟩;rw[zF0]at a;have:=congrArg (fun l=>l[0]?) a;simpa using this
def Wb{t e:io}{k:IntKind}{i n off len cap:Nat}{s:Option Nat}(a:P.underlying t=a9 (.slice e))(b:br P e=a9 sz)(hi:i<len) :
  aW P t (lm (a9 ⟨n,off,s⟩) len cap) (.int k (i:Int))=a9 (li (a9 ⟨n,off+i*sz,bi⟩)):=by
 simp only[aW,a,b,zA1,zA3,zG7];rw[if_pos ⟨by omega,by omega⟩]
end
def V8(b cnt:Nat):Value:=if cnt=0 then lm (a9 ⟨b+0,0,a9 0⟩) 0 0 else lm (a9 ⟨b+1,0,bi⟩) cnt cnt
section
variable{P:ip}
end
section
variable{P:ip}{H:aa}{N:Nat}{E:Env}{ds:List Deferred}{ops:Array Oper}{rest:List Oper}{ty:io}{pos:String}{after:Array Edge}{d i:Nat}{fps:List Fp}{anc:List Nat}{Q:ah -> aa -> Prop}
end
end Go.Ax
namespace Go.Proofs.YtpohjcacnkhnkaaGreatDoor.Tq
open Go.Ax
abbrev Pure(f:FuncId)(args:List go)(H:aa)(v:go):Prop:=bD Tryz.prog f args H (.ok v) H
abbrev VX(n:Int):Int:=IntKind.i64.wrap n
def aR{n:Int}(a:-4000000000000<n)(b:n<4000000000000):VX n=n:=by simp only[VX,IntKind.wrap,IntKind.signed,IntKind.bits];simp;omega
def ba{k:Nat}(h:k<1000000):IntKind.i64.wrap ((k:Int)+1)=((k+1:Nat):Int):=by have:=aR (n:=(k:Int)+1) lw lw;rw[show IntKind.i64.wrap ((k:Int)+1)=_ from this]; omega
def Ce.cells(c:Ce):List Value:=[jp kw c.rune,jp kw c.look.fore,jp kw c.look.back,ls c.look.bold,ls c.look.under,ls c.look.inv]
def Ce.val(c:Ce):Value:=.agg #[jp kw c.rune,jp kw c.look.fore,jp kw c.look.back,ls c.look.bold,ls c.look.under,ls c.look.inv]
def a8(l:List Ce):List Value:=l.flatMap Ce.cells
theorem cP(c:Ce)(l:List Ce):a8 (c::l)=c.cells++a8 l:=rfl
def fb(l m:List Ce):a8 (l++m)=a8 l++a8 m:=by simp[a8]
def bx(l:List Ce):(a8 l).length=l.length*6:=by
 induction l with
 |nil=>rfl
 |cons c l a=>rw[cP,zB3,a]; simp[Ce.cells]; omega
def tS(l:List Ce):(a8 l).all one=true:=by
 induction l with
 |nil=>rfl
 |cons c l a=>rw[cP,List.all_append,a]; rfl
def kj(l:List Ce)(n:Nat):aT n (a8 l)=true:=by
 induction l with
 |nil=>rfl
 |cons c l a =>rw[cP];simp only[Ce.cells,zE3,zB6,aT,aV,a,zD8]
def wE(l:List Ce)(k:Nat):(a8 l).take (k*6)=a8 (l.take k):=by
 induction l generalizing k with
 |nil=>simp[a8]
 |cons c l a =>
  cases k with
  |zero=>simp[a8]
  |succ k=>rw[cP,List.take_succ_cons,cP,show (k+1)*6=c.cells.length+k*6 by simp[Ce.cells]; omega,List.take_append,zD4 lw,zG2,a]
def q5(l:List Ce)(k:Nat):(a8 l).drop (k*6)=a8 (l.drop k):=by
 induction l generalizing k with
 |nil=>simp[a8]
 |cons c l a =>
  cases k with
  |zero=>simp[a8]
  |succ k=>rw[cP,List.drop_succ_cons,show (k+1)*6=c.cells.length+k*6 by simp[Ce.cells]; omega,List.drop_append,zE9 lw,zB6,zG2,a]
def Sl{l:List Ce}{k:Nat}{c:Ce}(h:l[k]?=a9 c):((a8 l).drop (k*6)).take 6=c.cells:=by
 rw[q5];have:=wE (l.drop k) 1;rw[Nat.one_mul]at this;rw[this];have a:(l.drop k).take 1=[c]:=by rw[List.take_one,List.head?_drop,h]; rfl
 rw[a];rfl
def Cd{l:List Ce}{k:Nat}{c:Ce}(h:l[k]?=a9 c):(a8 l)[k*6]?=a9 (jp kw c.rune):=by
 have:=Sl h;have a:(((a8 l).drop (k*6)).take 6)[0]?=a9 (jp kw c.rune):=by rw[this]; rfl
 simpa using a
def th(a new gO:List Ce)(h:new.length<=gO.length):dj (a8 (a++gO)) (a.length*6) (a8 new)=a8 (a++(new++gO.drop new.length)):=by have e:a.length*6=(a8 a).length:=(bx a).symm;rw[fb,e,pq _ _ _ (by rw[bx,bx]; omega),bx,q5,fb,fb]
def Hn(l:List Ce)(k:Nat)(c:Ce)(h:k<l.length):dj (a8 l) (k*6) c.cells=a8 (l.set k c):=by
 have a:=th (l.take k) [c] (l.drop k) pp;rw[zG9,zD9,zH0 lw]at a;have b:a8 [c]=c.cells:=by simp[a8]
 rw[b]at a;rw[a,List.set_eq_take_append_cons_drop,if_pos h];simp[zH3]
def VV:br Tryz.prog 77=a9 6:=by kernel_rfl
def eU{len cap n:Nat}{s:Option Nat}{i:Int}{k:Nat}(hi:i=k)(a:k<len):aW Tryz.prog 56 (lm (a9 ⟨n,0,s⟩) len cap) (jp kw i)=a9 (li (a9 ⟨n,k*6,bi⟩)):=by subst hi;rw[gk (e:=77) (sz:=6) m9 m9 lw lw];simp
def uF{len cap n:Nat}{s:Option Nat}{i:Int}{k:Nat}(hi:i=k)(a:k<len):aW Tryz.prog 39 (lm (a9 ⟨n,0,s⟩) len cap) (jp kw i)=a9 (li (a9 ⟨n,k,bi⟩)):=by subst hi;rw[gk (e:=56) (sz:=1) m9 m9 lw lw];simp
def Mc{len cap n off:Nat}{s:Option Nat}{i:Int}{k:Nat}(hi:i=k)(a:k<len):aW Tryz.prog 25 (lm (a9 ⟨n,off,s⟩) len cap) (jp kw i)=a9 (li (a9 ⟨n,off+k,bi⟩)):=by subst hi;rw[gk (e:=5) (sz:=1) m9 m9 lw lw];simp
def Qq{len cap n off:Nat}{s:Option Nat}{i:Int}{k:Nat}(hi:i=k)(a:k<len):aW Tryz.prog 22 (lm (a9 ⟨n,off,s⟩) len cap) (jp kw i)=a9 (li (a9 ⟨n,off+k,bi⟩)):=by subst hi;rw[gk (e:=3) (sz:=1) m9 m9 lw lw];simp
abbrev kA(c:UInt8):Value:=.int .u8 (c.toNat:Int)
theorem xS(c:UInt8)(l:List UInt8):ak (c::l)=kA c::ak l:=rfl
def rQ(l m:List UInt8):ak (l++m)=ak l++ak m:=by simp[ak]
def fu(l:List UInt8):(ak l).length=l.length:=by simp[ak]
def zy(l:List UInt8)(k:Nat):(ak l)[k]?=l[k]?.map kA:=by simp[ak]
def JN(l:List UInt8):(ak l).all one=true:=by simp[ak,one]
def vo(l:List UInt8)(n:Nat):aT n (ak l)=true:=by
 induction l with
 |nil=>rfl
 |cons c l a=>simp only[xS,aT,aV,a,zD8]
def cW(H:aa)(v:go)(l:List UInt8):Prop :=
 (l=[]/\v=lm bi 0 0) \/
 (l≠[]/\∃ n a,v=lm (a9 ⟨n,List.length a,bi⟩) l.length l.length/\bk H n=a9 ⟨5,bv,ak (a++l)⟩) \/
 (l=[]/\∃ n off k L,v=lm (a9 ⟨n,off,a9 (k+1)⟩) 0 0/\bk H n=a9 ⟨5,bv,L⟩/\off<=L.length) \/
 (l=[]/\∃ n,v=lm (a9 ⟨n,0,a9 0⟩) 0 0/\bk H n=a9 ⟨5,ci,[]⟩)
def cW.sl{H:aa}{v:go}{l:List UInt8}(h:cW H v l):∃ a,v=.slice a l.length l.length:=by rcases h with⟨rfl,rfl⟩|⟨_,n,b,rfl,_⟩|⟨rfl,n,off,k,L,rfl,_⟩|⟨rfl,n,rfl,_⟩<;>exact⟨_,rfl⟩
def cW.of{H G:aa}{v:go}{l:List UInt8}(h:cW H v l)(b:∀ n∈ae v,G.get n=H.get n):cW G v l:=by
 rcases h with⟨rfl,rfl⟩|⟨h,n,c,rfl,a⟩|⟨rfl,n,off,k,L,rfl,a,e⟩|⟨rfl,n,rfl,a⟩
 .exact .inl ⟨rfl,rfl⟩
 .exact .inr (.inl ⟨h,n,c,rfl,(bg (b n pm)).trans a⟩)
 .exact .inr (.inr (.inl ⟨rfl,n,off,k,L,rfl,(bg (b n pm)).trans a,e⟩))
 .exact .inr (.inr (.inr ⟨rfl,n,rfl,(bg (b n pm)).trans a⟩))
def cW.ne{H:aa}{v:go}{l:List UInt8}(h:cW H v l):∀ n∈ae v,H.get n≠none:=by rcases h with⟨rfl,rfl⟩|⟨h,n,c,rfl,a⟩|⟨rfl,n,off,k,L,rfl,a,e⟩|⟨rfl,n,rfl,a⟩<;>intro m b<;>simp only[ae,zA5,zD7]at b;all_goals (subst b; exact fa a)
def cW.get{H:aa}{v:go}{l:List UInt8}(h:cW H v l){k:Nat}{c:UInt8}(b:l[k]?=a9 c):∃ n off,aW Tryz.prog 25 v (jp kw (k:Int))=a9 (li (a9 ⟨n,off,bi⟩))/\n∈ae v/\∀ q,rL Tryz.prog 5 off (HY (bk H n) q)=a9 (kA c):=by
 have a:k<l.length:=by
  rcases zC0 k l.length with h'|h'
  .exact h'
  .rw[zD3 h']at b; cases b
 rcases h with⟨rfl,rfl⟩|⟨h,n,e,rfl,g⟩|⟨rfl,n,off,_,L,rfl,g,_⟩|⟨rfl,n,rfl,g⟩
 .simp at a
 .have j:fj Tryz.prog 5=a9 false:=by kernel_rfl
  refine⟨n,e.length+k,Mc rfl a,by simp[ae],fun q=>?_⟩;rw[g,jL,lf j,zy,zG5 lw,zG2,b];rfl
 .simp at a
 .simp at a
end Go.Proofs.YtpohjcacnkhnkaaGreatDoor.Tq
