/- Parts of the proof, one behind the other. -/
import Derived.Test.YtpohjcacnkhnkaaGreatDoorM3
import Derived.ChangeArms
set_option linter.all false
set_option maxRecDepth 10000
set_option maxHeartbeats 16000000
open Option renaming some->ap,none->bi
open Bool renaming true->bv,false->gc
open Decidable renaming decide->ge
open Go renaming Value->gt,TypeId->ii,Program->io,World->ip,Operand->i4
open Option.some renaming injEq->i5
open Prod.mk renaming injEq->i6
open Go.Value renaming int->i7,pointer->i9,slice->jp,bool->kw
open Go.IntKind renaming i64->i8
open And renaming intro -> zA0
open Option renaming bind_eq_bind -> zA1, bind_eq_some_iff -> zA2, bind_some -> zA4, map_some -> zB1, map_eq_some_iff -> zB5
open List renaming length_cons -> zA3, mem_singleton -> zA6, mem_cons -> zA9, length_nil -> zB0, length_append -> zB2, getElem?_eq_getElem -> zB3, mem_append -> zB4, mem_map -> zB6, nodup_cons -> zB8, map_cons -> zB9, mem_of_getElem? -> zC0, length_drop -> zC1, take_of_length_le -> zC3, mem_cons_of_mem -> zC4, getElem?_eq_none -> zC5, append_assoc -> zC9, nil_append -> zD0, drop_zero -> zD2, all_eq_true -> zD3, append_nil -> zD4, nodup_append -> zD5, mem_cons_self -> zD7, getElem?_eq_some_iff -> zE0, getElem?_map -> zE1, getD_eq_getElem?_getD -> zE3, map_nil -> zE6, eq_nil_of_length_eq_zero -> zE7, drop_eq_nil_of_le -> zE8, length_map -> zE9, length_take -> zF1, not_mem_nil -> zF2, getElem?_cons_zero -> zF3, getElem?_set -> zF4, mem_range -> zF5, cons_append -> zG1, length_replicate -> zG2, ext_getElem? -> zG4, getElem?_append_right -> zG5, getElem?_cons_succ -> zG6
open Nat renaming le_refl -> zA5, le_of_ble_eq_true -> zA8, zero_le -> zB7, lt_or_ge -> zC2, zero_add -> zC6, le_trans -> zC7, lt_of_lt_of_le -> zD1, add_zero -> zD6, lt_succ_self -> zD9, ble_eq -> zE2, mul_one -> zE5, min -> zF0, add_sub_cancel_left -> zF9, sub_self -> zG0
open Bool renaming and_eq_true -> zA7, false_eq_true -> zC8, and_self -> zD8, not_true -> zE4, or_false -> zF6, false_and -> zF7, or_true -> zF8, or_eq_true -> zG3
namespace Go.Proofs.YtpohjcacnkhnkaaGreatDoor.Tq
open Go.Ax
set_option maxRecDepth 100000
def NP(H:aa)(v:gt)(l:List UInt8)(out:Out)(X:aa):Prop:=Mod (ae v) H X/\∃ u,out=.ok u/\cK X 5 1 u (aq l) l.length/\∀ n∈ae u,n∈ae v\/H.next<=n
def jv(n:Nat)(h:n<=9999):Go.Lib.decDigits n=fu n:=by
 have e:∀ k,Go.Lib.decDigits k=if k<10 then [UInt8.ofNat (48+k)] else Go.Lib.decDigits (k / 10)++[UInt8.ofNat (48+k % 10)]:=fun k=>by rw[Go.Lib.decDigits];split<;>rfl
 unfold fu dg;by_cases a:n<10
 .rw[if_pos a,e,if_pos a]
 rw[if_neg a,e n,if_neg a];by_cases b:n<100
 .rw[if_pos b,e,if_pos li];rfl
 rw[if_neg b,e (n / 10),if_neg li];by_cases c:n<1000
 .rw[if_pos c,e,if_pos li,Nat.div_div_eq_div_mul];rfl
 rw[if_neg c,e (n / 10 / 10),if_neg li,e,if_pos li];simp only[Nat.div_div_eq_div_mul,zG1,zD0]
def ju(a b:List UInt8):aq (a++b)=aq a++aq b:=by simp[aq]
def vA(a:List UInt8):(aq a).all one=true:=by simp[aq,one]
def mR(n:Nat)(a:List UInt8):aX n (aq a)=true:=by rw[cx];intro c b;obtain⟨w',_,rfl⟩:=zB6.1 b;rfl
def ib(a:List UInt8):(aq a).length=a.length:=by simp[aq]
def CV:List UInt8:=List.replicate 24 0
def Ll(H:aa)(t:Pow H)(v:gt)(l:List UInt8)(u:Nat)(A:cK H 5 1 v (aq l) l.length)(hl:l.length<=350000000)(B:u<=9999)(g:H.base<=H.next) :
  aL Tryz.prog 152 [v,.int .u64 u,i7 i8 10] H (NP H v (l++fu u)):=by
 have S:Tryz.prog.underlying 25=ap (.slice 5):=by kernel_rfl
 have C:bg Tryz.prog 5=ap 1:=by kernel_rfl
 have T:bytesOf Tryz.prog 5=ap 1:=by kernel_rfl
 have U:zeroOf Tryz.prog 5=ap (.int .u8 0):=by kernel_rfl
 have a5:fM Tryz.prog 9=ap false:=by kernel_rfl
 have a6:fM Tryz.prog 25=ap false:=by kernel_rfl
 have D:∀ X,bM Tryz.prog X 173 3 (.int .u64 (u:Int))=ap (i7 i8 (IntKind.i64.wrap (u:Int)),X):=fun X=>im (u:=.int .u64) ls ls;have w1:IntKind.i64.wrap (u:Int)=(u:Int):=by rw[IntKind.wrap_i64]; omega
 have F:0<(fu u).length:=by unfold fu; split<;>(try split)<;>(try split)<;>simp
 have hl4:(fu u).length<=4:=by unfold fu; split<;>(try split)<;>(try split)<;>simp
 obtain⟨b,m⟩:=ac H.next;obtain⟨va,ev⟩:=A.len;refine aH mixed Tryz.func152 rfl Tryz.ntmps152 (zA8 rfl) ?_;have V:∀ i:Decidable True,@decide True i=true:=fun i=>by simp
 have o:∀ {X:aa} {n:Nat} {W:gt},cK X 5 1 W (aq (l++fu u)) n->n=l.length+(fu u).length->cK X 5 1 W (aq (l++fu u)) (l++fu u).length:=fun h e=>by rw[zB2,<-e];exact h
 by_cases p:u<100
 .have I:ge ((u:Int)<100)=true:=decide_eq_true li;have J:(ByteArray.mk (fu u).toArray).size=(fu u).length:=by simp[ByteArray.size]
  obtain⟨G,r,L,M,g4⟩:=Ip (P:=Tryz.prog) (st:=25) (xt:=9) (e:=5) (by1:=1) (z:=.int .u8 0) (s:=⟨(fu u).toArray⟩) S C T U rfl a5 A (by rw[J]; exact F) (by rw[J]; simp only[small,zA7,zE2]; omega) m (mR _ _);simp only[I,V,aY,D,w1,zW,seval];refine (ON (ext H []) u p).to ?_;rw[jv u B];rw[show H=ext H [] from rfl]at r;simp only[r,Tryz.results152,zW,seval];refine⟨M g,_,rfl,o (by rw[ju]; exact L) (by rw[J]),fun n x=>.inr ?_⟩;simp only[ae,zA6]at x;omega
 .have I:ge ((u:Int)<100)=false:=decide_eq_false li;simp only[m,I,V,zW,seval];obtain⟨H1,a⟩:=ac (ext H [⟨189,gc,aq CV⟩]);have O:Mod [] H H1:=a▸Mod.ext g;have n1:H1.next=b+1:=by rw[<-a,aA,m]; rfl
  have Y:bk H1 b=ap ⟨189,gc,aq CV⟩:=by rw[<-a,show b=b+0 from rfl,bJ m lw]; rfl
  have t1:=t.mod O lw;obtain⟨n,x⟩:=ac (Go.Lib.nDigits u);have hn4:n=(fu u).length:=by rw[<-x,<-Go.Lib.decDigits_length,jv u B]
  refine (Qj _ (show Pow _ from a▸t1) u li li).to ?_;rw[x]
  have sl:∀ X,cw Tryz.prog X 189 (i9 (ap ⟨b+0,0,bi⟩)) bi (ap (i7 i8 (n:Int))) bi=ap (jp (ap ⟨b,0,ap 0⟩) n 24,X):=fun X=>by
   have ua:Tryz.prog.underlying 189=ap (.array 24 5):=by kernel_rfl
   simp only[cw,ua,bound,C,zA1,zA4];rw[if_pos (Int.natCast_nonneg n),zA4,Int.toNat_natCast,if_pos ⟨by omega,zB7 _,trivial⟩];rfl
  simp only[sl,zW,seval];refine (show br Tryz.prog 165 [jp (ap ⟨b,0,ap 0⟩) n 24,.int .u64 (u:Int)] _ _ _ from a▸RA H1 b n u 24 CV 189 Y x.symm (by simp only[CV,zG2]; omega) li (by simp[CV])).to ?_;rw[a];obtain⟨j,c⟩:=ac (uw H1 b 0 (aq (Go.Lib.decDigits u)));have Z:Mod [b] H1 j:=c▸Mod.uw lw;have n2:j.next=b+1:=by rw[<-c,bE,n1]
  rw[jv u B]at c ⊢;have b2:bk j b=ap ⟨189,gc,cQ (aq CV) 0 (aq (fu u))⟩:=by rw[<-c,bR,Y]; rfl
  have R:∀ q∈ae v,q<b:=fun q k=>m▸(A.ne q k).2;have v2:cK j 5 1 v (aq l) l.length:=A.of li fun q k=>by have:=R q k;rw[Z.get q li (by simp only[zA6]; omega),O.get q li lw]
  obtain⟨G,r,L,M,g4,g5⟩:=Cc (P:=Tryz.prog) (st:=25) (xt:=25) (e:=5) (sz:=1) (by1:=1) (z:=.int .u8 0) (off:=0) (cap:=24) (s:=ap 0) (cnt2:=n) (ws:=aq (fu u)) S C T U rfl a6 v2 (ma b2) (by simp only[jC,ib,CV,zG2]; omega) (by
   have h1:cQ (aq CV) 0 (aq (fu u))=_:=oo _ _ _ (by simp only[ib,CV,zG2]; omega);simp only[h1,tI,List.take_zero,zD0,zD2,zE5];rw[List.take_append_of_le_length (by rw[ib]; omega)]
   exact zC3 (by rw[ib]; omega)) (vA _) li sm n2 (by rw[<-ju]; exact mR _ _)
  rw[c,show j=ext j [] from rfl];rw[show j=ext j [] from rfl]at r;simp only[sl,r,Tryz.results152,zW,seval];refine⟨?_,_,rfl,o (by rw[ju]; exact L) li,fun q k=>.inr ?_⟩
  .have y:Mod [] H j:=O.step Z g fun q k=>.inr (by simp only[zA6]at k; omega);exact (y.mono lw).trans (M (y.ok g))
  .simp only[ae,zA6]at k;omega
def Iv(H:aa)(t:Pow H)(v:gt)(l:List UInt8)(u:Nat)(j:cK H 5 1 v (aq l) l.length)(k:l.length<=350000000)(n:u<=9999)(c:H.base<=H.next) :
  aL Tryz.prog 87 [v,i7 i8 u,i7 i8 10] H (NP H v (l++fu u)):=by
 obtain⟨p,ev⟩:=j.len;obtain⟨b,q⟩:=ac H.next;have e:∀ X,bM Tryz.prog X 2 173 (i7 i8 (u:Int))=ap (.int .u64 (IntKind.u64.wrap (u:Int)),X):=fun X=>im (u:=.int i8) ls ls;have w1:IntKind.u64.wrap (u:Int)=(u:Int):=by rw[IntKind.wrap_u64]; omega
 have o:ge ((u:Int)<0)=false:=decide_eq_false li;have g:aL Tryz.prog 121 [v,i7 i8 u,i7 i8 10] H (NP H v (l++fu u)):=by refine aH mixed Tryz.func121 rfl Tryz.ntmps121 (zA8 rfl) ?_;simp only[o,aY,e,w1,zW,seval];refine (Ll (ext H []) t v l u j k n c).mono ?_;rintro out X ⟨m,w,rfl,a,h⟩;obtain⟨r,s⟩:=a.len;rw[show X=ext X [] from rfl];simp only[Tryz.results121,zW,seval];exact⟨m,w,rfl,a,h⟩
 refine aH mixed Tryz.func87 rfl Tryz.ntmps87 (zA8 rfl) ?_;simp only[zW,seval];refine (show aL Tryz.prog 121 _ (ext H []) _ from g).mono ?_;rintro out X ⟨m,w,rfl,a,h⟩;rw[show X=ext X [] from rfl];simp only[Tryz.results87,zW,seval];exact⟨m,w,rfl,a,h⟩
end Go.Proofs.YtpohjcacnkhnkaaGreatDoor.Tq
namespace Go.Ax
variable{P:io}{H X:aa}{f:FuncId}{args:List gt}
end Go.Ax
namespace Go.Ax
open Go.ChangeShapes
section
variable{P:io}{ρ:Ren}{H:aa}{w:ip}
def Ba(e:ii)(vs:List gt):dw:=⟨.cells #[] e (1,0),bv,RV.ofList vs⟩
def yK{e:ii}{vs:List gt}:Fz (ap (Ba e vs)):=⟨_,rfl,rfl⟩
def RE(H:aa)(e:ii)(vs:List gt):aa:=⟨ek H.root H.next (ap (Ba e vs)),H.next+1,H.next+1,H.dirty⟩
def nN{e:ii}{vs:List gt}(m:Nat):(RE H e vs).get m=if m=H.next then ap (Ba e vs) else H.get m:=lB _ _ _ _
def PZ{e:ii}{vs:List gt}:rk (RE H e vs) H.next=ap ⟨e,bv,vs⟩:=by rw[Iq];simp only[cM,nN,if_true,Ba,zB1,RV.n_ofList,RV.jG]
def zp:gt->Bool
 |.int .u8 _=>bv
 |.int .u64 _=>bv
 |_=>gc
structure Ro (P:io) (ρ:Ren) (H:aa) (w:ip):Prop where
 rel:Rel P ρ H w
 base:H.base=H.next
 dirty:H.dirty=[]
 al:∀ n,H.get n≠bi->Fz (H.get n)\/n<P.globals.size/\∃ c e,w.heap[n]?=ap (.cells c e (0,0))/\∀ v∈c.toList,zp v=bv
structure Dl (H H1:aa):Prop where
 next:H.next<=H1.next
 get:∀ n,n<H.next->H1.get n=H.get n
def Dl.refl:Dl H H:=⟨zA5 _,fun _ _=>rfl⟩
def Dl.trans{H1 c:aa}(a:Dl H H1)(b:Dl H1 c):Dl H c:=⟨zC7 a.next b.next,fun n e=>(b.get n (zD1 e a.next)).trans (a.get n e)⟩
def Ro.add(R:Ro P ρ H w){b off:Nat}{e:ii}{c:Array gt}{y:Nat × Nat}{vs:List gt}(z:w.heap[b]?=ap (.cells c e y))(A:∀ i,i<vs.length->c[off+i]?=ap (ρ.val (vs.getD i undef)))
  (B:aX H.next vs=bv) (D:∃ i,i<vs.length/\zp (ρ.val (vs.getD i undef))=gc):Ro P (ρ.at H.next b off 0) (RE H e vs) w/\Ext H.next ρ (ρ.at H.next b off 0)/\Dl H (RE H e vs):=by
 have l:=Ren.gB ρ H.next b off 0;have r:=R.rel
 have s:∀ n,H.get n≠bi->ρ.blk n=b->Fz (H.get n):=fun n a p=>by
  rcases R.al n a with h|⟨t,I,J,j,k⟩
  .exact h
  .rw[(r.glob.2 n t).1]at p;subst p;rw[z]at j;simp only[i5,Obj.cells.injEq]at j;obtain⟨i,hi,F⟩:=D;have C:=A i hi;rw[j.1]at C;have:=k _ (Array.mem_toList_iff.2 (Array.mem_of_getElem? C));rw[F]at this;cases this
 have u:Dl H (RE H e vs):=⟨Nat.le_succ _,fun n a=>by rw[nN,if_neg li]⟩
 refine⟨⟨⟨zA5 _,⟨Nat.le_succ_of_le r.glob.1,fun g t=>?_⟩,fun m n q a p=>?_,fun n o a=>?_,fun n o a=>?_⟩,rfl,R.dirty,fun n a=>?_⟩,l,u⟩
 .have:=r.glob.1;rw[l.blk g li,l.sh g li]; exact r.glob.2 g t
 .rw[nN]at q a ⊢;rw[nN];by_cases j:m=H.next<;>by_cases k:n=H.next
  .exact .inl (j.trans k.symm)
  .rw[if_neg k]at a;rw[if_pos j,if_neg k];subst j;rw[Ren.at_blk,l.blk n (r.lt a)]at p;exact .inr ⟨yK,s n a p.symm⟩
  .rw[if_neg j]at q;rw[if_neg j,if_pos k];subst k;rw[Ren.at_blk,l.blk m (r.lt q)]at p;exact .inr ⟨s m q p,yK⟩
  .rw[if_neg j]at q;rw[if_neg k]at a;rw[if_neg j,if_neg k];rw[l.blk m (r.lt q),l.blk n (r.lt a)]at p;exact r.inj m n q a p
 .rw[nN]at a;by_cases h:n=H.next
  .rw[if_pos h]at a;cases a;subst h;refine⟨zD9 _,?_⟩;simp only[ki,Ba,RV.n_ofList,RV.cb];intro i hi;exact cS (Nat.le_succ _) _ (cx.1 B _ (by simp[List.getD,hi]))
  .rw[if_neg h]at a;have:=r.dom n o a;exact⟨Nat.lt_succ_of_lt this.1,this.2.mono (Nat.le_succ _)⟩
 .rw[nN]at a;by_cases h:n=H.next
  .rw[if_pos h]at a;cases a;subst h;refine⟨_,by rw[Ren.at_blk]; exact z,?_⟩;simp only[Fits,Ba];refine⟨c,y,rfl,fun i hi=>?_,fun h=>(by cases h),fun _ h=>(by cases h)⟩;simp only[RV.n_ofList]at hi;rw[RV.cb,Ren.at_sh,fJ l _ (cx.1 B _ (by simp[List.getD,hi])),Nat.add_comm];exact A i hi
  .rw[if_neg h]at a;obtain⟨o',j,k⟩:=r.obj n o a;have x:=r.dom n o a;exact⟨o',by rw[l.blk n x.1]; exact j,k.ext x.1 x.2 l⟩
 .rw[nN]at a ⊢;by_cases h:n=H.next
  .rw[if_pos h]; exact .inl yK
  .rw[if_neg h]at a ⊢;exact R.al n a
def Ro.MZ(R:Ro P ρ H w){c:Ren}(b:Ext H.next ρ c):Ro P c ⟨H.root,H.next+1,H.next+1,H.dirty⟩ w/\Dl H ⟨H.root,H.next+1,H.next+1,H.dirty⟩:=by
 have r:=R.rel;have e:∀ n,(⟨H.root,H.next+1,H.next+1,H.dirty⟩:aa).get n=H.get n:=fun n=>rfl;refine⟨⟨⟨zA5 _,⟨Nat.le_succ_of_le r.glob.1,fun g e=>?_⟩,fun m n h a k=>?_,fun n o a=>?_,fun n o a=>?_⟩,rfl,R.dirty,fun n a=>R.al n a⟩,Nat.le_succ _,fun n _=>rfl⟩
 .have:=r.glob.1;rw[b.blk g li,b.sh g li]; exact r.glob.2 g e
 .rw[e]at h a;rw[b.blk m (r.lt h),b.blk n (r.lt a)]at k;exact r.inj m n h a k
 .have:=r.dom n o a;exact⟨Nat.lt_succ_of_lt this.1,this.2.mono (Nat.le_succ _)⟩
 .obtain⟨o',l,p⟩:=r.obj n o a;have j:=r.dom n o a;exact⟨o',by rw[b.blk n j.1]; exact l,p.ext j.1 j.2 b⟩
def Ro.skip(R:Ro P ρ H w)(b off:Nat):Ro P (ρ.at H.next b off 0) ⟨H.root,H.next+1,H.next+1,H.dirty⟩ w/\Ext H.next ρ (ρ.at H.next b off 0)/\Dl H ⟨H.root,H.next+1,H.next+1,H.dirty⟩ :=
 ⟨(R.MZ (Ren.gB ρ H.next b off 0)).1,Ren.gB ρ H.next b off 0,(R.MZ (Ren.gB ρ H.next b off 0)).2⟩
def Ren.Sg(ρ:Ren)(n b s j:Nat):Ren:=⟨fun m=>if m=n then b else ρ.blk m,fun m=>if m=n then s else ρ.sh m,fun m=>if m=n then 0 else ρ.ex m,fun m=>if m=n then i7 i8 j else ρ.op m,fun m=>by
 by_cases h:m=n
 .simp only[h,if_true]; rfl
 .simp only[h,if_false]; exact ρ.op1 m⟩
def Ren.I8(ρ:Ren)(n b s j:Nat):Ext n ρ (ρ.Sg n b s j) :=
 ⟨fun m h=>if_neg (Nat.ne_of_lt h),fun m h=>if_neg (Nat.ne_of_lt h),fun m h=>if_neg (Nat.ne_of_lt h),fun m h=>if_neg (Nat.ne_of_lt h)⟩
def Po{N b off j:Nat}:(ρ.Sg N b off j).val (jp (ap ⟨N,0,ap 1⟩) 0 0)=jp (ap ⟨b,off,ap j⟩) 0 0:=by simp[Ren.val,Ren.Sg,Ren.ni,Ren.zl,Ren.oZ,Sw]
def Pb(H:aa)(sz:Nat)(u:gt)(vs:List gt)(len:Nat):Prop :=
 vs.length=len*sz/\∃ a cap,u=.slice a len cap/\(len=0\/∃ n e,a=ap ⟨n,0,ap 0⟩/\n<H.next/\rk H n=ap ⟨e,bv,vs⟩/\len<=cap)
def MG{N b off len cap:Nat}:(ρ.at N b off 0).val (jp (ap ⟨N,0,ap 0⟩) len cap)=jp (ap ⟨b,off,bi⟩) len cap:=by simp[Ren.val,Ren.at_blk,Ren.at_sh]
def R3(u:gt):Prop:=∃ a len cap,u=.slice a len cap/\len<=cap/\(a=bi/\len=0\/(∃ n,a=ap ⟨n,0,ap 0⟩)\/len=0/\∃ n,a=ap ⟨n,0,ap 1⟩)
def Ro.SO(R:Ro P ρ H w){sz len cap b off:Nat}{sp:Option Nat}(a:sp=bi\/len=0/\cap=0){vs:List gt}(g:vs.length=len*sz)
  (k:len=0\/∃ c e s,w.heap[b]?=ap (.cells c e s)/\∀ i,i<vs.length->c[off+i]?=ap (ρ.val (vs.getD i undef))) (t:aX H.next vs=bv) (x:len=0\/∃ i,i<vs.length/\zp (ρ.val (vs.getD i undef))=gc) (m:len<=cap) :
  ∃ l H1 u,Ro P l H1 w/\Ext H.next ρ l/\Dl H H1/\l.val u=jp (ap ⟨b,off,sp⟩) len cap/\aV H1.next u=bv/\Pb H1 sz u vs len/\R3 u:=by
 by_cases n:len=0
 .cases sp with
  |none =>obtain⟨o,q,p⟩:=R.skip b off;exact⟨_,_,jp (ap ⟨H.next,0,ap 0⟩) len cap,o,q,p,MG,bx (zD9 _),⟨g,_,_,rfl,.inl n⟩,_,_,_,rfl,by omega,.inr (.inl ⟨_,rfl⟩)⟩
  |some j =>
   have r:cap=0:=by
    rcases a with h|h
    .cases h
    .exact h.2
   subst r n;obtain⟨o,p⟩:=R.MZ (ρ.I8 H.next b off j);exact⟨_,_,jp (ap ⟨H.next,0,ap 1⟩) 0 0,o,ρ.I8 H.next b off j,p,Po,bx (zD9 _),⟨g,_,_,rfl,.inl rfl⟩,_,_,_,rfl,zA5 _,.inr (.inr ⟨rfl,_,rfl⟩)⟩
 .obtain rfl:sp=none:=by
   rcases a with h|h
   .exact h
   .exact absurd h.1 n
  obtain⟨c,e,s,y,r⟩:=k.resolve_left n;obtain⟨o,q,p⟩:=R.add y r t (x.resolve_left n);exact⟨_,_,jp (ap ⟨H.next,0,ap 0⟩) len cap,o,q,p,MG,bx (zD9 _),⟨g,_,_,rfl,.inr ⟨H.next,e,rfl,zD9 _,PZ,m⟩⟩,_,_,_,rfl,m,.inr (.inl ⟨_,rfl⟩)⟩
def Ro.sl(R:Ro P ρ H w){sz len cap b off:Nat}{sp:Option Nat}(g:sp=bi\/len=0/\cap=0){vs:List gt}(j:vs.length=len*sz)
  (h:len=0\/∃ c e l,w.heap[b]?=ap (.cells c e l)/\∀ i,i<vs.length->c[off+i]?=ap (ρ.val (vs.getD i undef))) (m:aX H.next vs=bv) (n:len=0\/∃ i,i<vs.length/\zp (ρ.val (vs.getD i undef))=gc) (k:len<=cap) :
  ∃ a H1 u,Ro P a H1 w/\Ext H.next ρ a/\Dl H H1/\a.val u=jp (ap ⟨b,off,sp⟩) len cap/\aV H1.next u=bv/\Pb H1 sz u vs len:=by
 obtain⟨a,H1,u,o,p,q,r,s,t,_⟩:=R.SO g j h m n k;exact⟨a,H1,u,o,p,q,r,s,t⟩
variable{K:Type}{enc:ii × gt -> K}{spare:Nat -> Bool}{held:Bool}{fuel:Nat}
def OY{t e:ii}{sz len cap:Nat}{a:Addr}{x:DataW K × List MemPlace}(m:∀ b,spare b=bv)(s:P.underlying t=ap (.slice e))(o:bg P e=ap (sz+1))(h:DataW.trod enc P w 0 spare held fuel t [jp (ap a) len cap]=ap x):a.spot=bi\/len=0/\cap=0:=by
 have c:∀ y,(w.cells? 0 (a.add 0) (sz+1)).bind y=(none:Option (DataW K × List MemPlace))\/a.spot=none:=fun y=>by
  cases u:a.spot with
  |none=>exact .inr rfl
  |some j =>
   left
   cases hc:w.cells? 0 (a.add 0) (sz+1) with
   |none=>rfl
   |some cs =>unfold World.cells? at hc;rw[if_pos (zB7 _)]at hc;obtain⟨v,p⟩:=Go.Ax.mapM_each hc 0 lw;simp only[Addr.add,if_true,World.cell?,u,Option.isSome_some]at p;split at p<;>cases p
 rcases DataW.trod_slice s h with⟨l,_⟩|⟨C,len',r,q,rest,n,_,l,_,_,z,_,A,g,k,_⟩
 .simp at l
 .simp only[List.cons.injEq,Value.slice.injEq,i5,and_true]at l;obtain⟨rfl,rfl,rfl⟩:=l;rw[aZ o]at g k;rcases Nat.eq_zero_or_pos len with h0|h0
  .subst h0;rcases Nat.eq_zero_or_pos cap with hc|hc
   .exact .inr ⟨rfl,hc⟩
   .obtain⟨D,B⟩:=k (m _);have:=B 0 li;rw[zC6,Nat.zero_mul]at this;rcases c (DataW.trod enc P w 0 spare held n e) with h2|h2
    .rw[h2,zB3 li]at this;cases this
    .exact .inl h2
  .have:=g 0 h0;rw[Nat.zero_mul]at this;rcases c (DataW.trod enc P w 0 spare held n e) with h2|h2
   .rw[h2,zB3 li]at this;cases this
   .exact .inl h2
def Wt(P:io)(t:ii)(d:DataW K):Prop:=∀ n∈d.weights P t,n<=reachBytes
def vi{e:ii}{n:Nat}:∀ {l:List (DataW K)} {d:DataW K},d∈l->n∈d.weights P e->n∈DataW.weightsAll P e l
 |d'::l,d,h,a=>by
  rw[DataW.weightsAll,zB4];rcases zA9.1 h with rfl|h
  .exact .inl a
  .exact .inr (vi h a)
def Wt.elem{t e:ii}{l r:List (DataW K)}{d:DataW K}(a:P.underlying t=ap (.slice e))(h:Wt P t (.slice l r))(b:d∈l):Wt P e d:=fun n c =>
 h n (by rw[DataW.weights,a]; exact zC4 _ (List.mem_append_left _ (vi b c)))
def Wt.len{t e:ii}{l r:List (DataW K)}(a:P.underlying t=ap (.slice e))(h:Wt P t (.slice l r)):l.length*P.bytesOf e<=reachBytes :=
 zC7 (Nat.mul_le_mul_right _ (Nat.le_add_right _ r.length)) (h _ (by rw[DataW.weights,a]; exact zD7))
def JN{t e:ii}{sz b off len cap:Nat}{x:DataW K × List MemPlace}(O:P.underlying t=ap (.slice e))(R:bg P e=ap sz)(h:DataW.trod enc P w 0 spare held fuel t [jp (ap ⟨b,off,bi⟩) len cap]=ap x) :
  ∃ (vs:List gt) (n:Nat),vs.length=len*sz/\(len*sz=0\/∃ c S T,w.heap[b]?=ap (.cells c S T)/\∀ i,i<vs.length->c[off+i]?=ap (vs.getD i undef)) /\
   (∀ i,i<len->∃ y,DataW.trod enc P w 0 spare held n e ((vs.drop (i*sz)).take sz)=ap y/\(Wt P t x.1->Wt P e y.1)/\∃ l r,x.1=.slice l r/\y.1∈l)/\(Wt P t x.1->len*P.bytesOf e<=reachBytes):=by
 rcases DataW.trod_slice O h with⟨p,_⟩|⟨a,len',cap',U,rest,n,_,p,hx,_,_,_,V,m,_,_⟩
 .simp at p
 .simp only[List.cons.injEq,Value.slice.injEq,i5,and_true]at p;obtain⟨rfl,rfl,rfl⟩:=p;rw[aZ R]at m;have C:Wt P t x.1->len*P.bytesOf e<=reachBytes:=fun D=>by rw[hx]at D;have:=D.len O;rwa [zE9,V]at this
  have q:∀ i,i<len->∃ cs y,w.cells? 0 ((⟨b,off,bi⟩:Addr).add (i*sz)) sz=ap cs/\DataW.trod enc P w 0 spare held n e cs=ap y/\(Wt P t x.1->Wt P e y.1)/\∃ l r,x.1=.slice l r/\y.1∈l:=fun i hi=>by
   have:=m i hi;rw[zB3 li]at this;obtain⟨cs,p,W⟩:=zA2.1 this
   exact⟨cs,_,p,W,fun D=>by
    rw[hx]at D
    exact D.elem O (zB6.2 ⟨_,List.getElem_mem _,rfl⟩),_,_,congrArg (·.1) hx,zB6.2 ⟨_,List.getElem_mem _,rfl⟩⟩
  by_cases Y:len*sz=0
  .refine⟨[],n,by simp[Y],.inl Y,fun i hi=>?_,C⟩;obtain⟨cs,y,p,W,Z⟩:=q i hi
   have F:sz=0:=by
    rcases Nat.eq_zero_or_pos sz with h|h
    .exact h
    .have:=Nat.mul_pos (show 0<len by omega) h; omega
   subst F;unfold World.cells? at p;rw[if_pos (zB7 _)]at p;simp at p;subst p;exact⟨y,by simpa using W,Z⟩
  .have hp:0<sz:=Nat.pos_of_ne_zero fun h=>Y (by rw[h,Nat.mul_zero])
   have u:∀ i,i<len*sz->∃ v,w.cell? ⟨b,off+i,bi⟩=ap v:=fun i hi=>by
    have hq:i / sz<len:=(Nat.div_lt_iff_lt_mul hp).2 hi;obtain⟨cs,y,k,_,_⟩:=q _ hq;unfold World.cells? at k;rw[if_pos (zB7 _)]at k;obtain⟨v,z⟩:=mapM_each k (i % sz) (by simpa using Nat.mod_lt _ hp);rw[dT,dT]at z;have:off+i / sz*sz+i % sz=off+i:=by rw[Nat.add_assoc,Nat.mul_comm,Nat.div_add_mod]
    rw[this]at z;exact⟨v,z⟩
   obtain⟨v0,A⟩:=u 0 li;unfold World.cell? at A
   cases M:w.heap[b]? with
   |none=>simp[M]at A
   |some o =>
    cases o with
    |cells c S T =>
     have B:∀ i,i<len*sz->∃ v,c[off+i]?=ap v:=fun i hi=>by obtain⟨v,z⟩:=u i hi;simp only[World.cell?,M]at z;exact⟨v,by simpa using z⟩
     obtain⟨vs,I⟩:∃ vs:List gt,vs=(List.range (len*sz)).map fun i=>(c[off+i]?).getD undef:=⟨_,rfl⟩
     have s:vs.length=len*sz:=by simp[I]
     have J:∀ i,i<vs.length->c[off+i]?=ap (vs.getD i undef):=fun i hi=>by rw[s]at hi;obtain⟨v,z⟩:=B i hi;simp[I,hi,z,zE3]
     refine⟨vs,n,s,.inr ⟨c,S,T,rfl,J⟩,fun i hi=>?_,C⟩;obtain⟨cs,y,k,hy,hy2⟩:=q i hi
     have L:(vs.drop (i*sz)).take sz=cs:=by
      unfold World.cells? at k;rw[if_pos (zB7 _)]at k;have hin:i*sz+sz<=len*sz:=by rw[<-Nat.succ_mul]; exact Nat.mul_le_mul_right _ hi
      have hr:=mapM_range_of (f:=fun j=>w.cell? (((⟨b,off,bi⟩:Addr).add (i*sz)).add j)) (g:=fun j=>vs.getD (i*sz+j) undef) sz (fun j hj=>by
       have Z:=J (i*sz+j) (by rw[s]; omega);rw[dT,dT,Nat.add_assoc]
       simp[World.cell?,M,Z])
      rw[hr]at k;cases k;apply zG4;intro j;by_cases hj:j<sz
      .rw[List.getElem?_take,if_pos hj,List.getElem?_drop,zE1,List.getElem?_range hj,zB3 (by rw[s]; omega)];simp only[zB1,zE3];rw[zB3 (by rw[s]; omega)];rfl
      .rw[zC5 pp,zC5 pp]
     rw[L];exact⟨y,hy,hy2⟩
    |_=>simp[M]at A
end
def pq(H:aa)(sz:Nat)(v:gt)(vs:List gt)(cnt:Nat):Prop :=
 vs.length=cnt*sz/\((cnt=0/\∃ a c,v=.slice a 0 c)\/(0<cnt/\∃ n off s c e o M,v=jp (ap ⟨n,off,s⟩) cnt c/\rk H n=ap ⟨e,o,M⟩/\n<H.next/\off+cnt*sz<=M.length/\(M.drop off).take (cnt*sz)=vs))
section
variable{P:io}{H G:aa}{sz cnt:Nat}{v:gt}{vs:List gt}
def pq.sl(h:pq H sz v vs cnt):∃ a c,v=.slice a cnt c:=by
 obtain⟨_,⟨rfl,a,c,rfl⟩|⟨_,n,off,s,c,e,o,M,rfl,_⟩⟩:=h
 .exact⟨_,_,rfl⟩
 .exact⟨_,_,rfl⟩
def pq.nil{a:Option Addr}{c:Nat}:pq H sz (.slice a 0 c) [] 0:=⟨by simp,.inl ⟨rfl,_,_,rfl⟩⟩
def Q1(v:gt)(cnt:Nat):List Nat:=if cnt=0 then [] else ae v
def pq.of(h:pq H sz v vs cnt)(l:H.next<=G.next)(b:∀ n∈Q1 v cnt,G.get n=H.get n):pq G sz v vs cnt:=by
 obtain⟨a,h|⟨g,n,off,s,c,e,o,M,rfl,j,m,k⟩⟩:=h
 .exact⟨a,.inl h⟩
 .exact⟨a,.inr ⟨g,n,off,s,c,e,o,M,rfl,(oF (b n (by rw[Q1,if_neg li]; simp[ae]))).trans j,by omega,k⟩⟩
def pq.ne(h:pq H sz v vs cnt):∀ n∈Q1 v cnt,H.get n≠bi/\n<H.next:=by
 obtain⟨l,⟨rfl,a,c,rfl⟩|⟨p,n,off,s,c,e,o,M,rfl,g,j,q⟩⟩:=h
 .intro n k; simp[Q1]at k
 .intro m b;rw[Q1,if_neg li]at b;simp only[ae,zA6]at b;subst b;exact⟨NL g,j⟩
def pq.at_(h:pq H sz v vs cnt){i:Nat}(hi:i<cnt):∃ n off s c e o M,v=jp (ap ⟨n,off,s⟩) cnt c/\n<H.next/\rk H n=ap ⟨e,o,M⟩/\off+i*sz+sz<=M.length/\(M.drop (off+i*sz)).take sz=(vs.drop (i*sz)).take sz:=by
 obtain⟨j,⟨rfl,_⟩|⟨k,n,off,s,c,e,o,M,rfl,a,b,l,g⟩⟩:=h
 .omega
 have m:i*sz+sz<=cnt*sz:=by rw[<-Nat.succ_mul]; exact Nat.mul_le_mul_right _ hi
 refine⟨n,off,s,c,e,o,M,rfl,b,a,by omega,?_⟩;rw[<-g,List.drop_take,List.drop_drop,List.take_take,Nat.min_eq_left li]
def pq.one(h:pq H 1 v vs cnt){i:Nat}(hi:i<cnt):∃ n off s c e o M,v=jp (ap ⟨n,off,s⟩) cnt c/\n<H.next/\rk H n=ap ⟨e,o,M⟩/\M[off+i]?=vs[i]?:=by obtain⟨n,off,s,c,e,o,M,b,g,j,k,a⟩:=h.at_ hi;refine⟨n,off,s,c,e,o,M,b,g,j,?_⟩;rw[zE5]at a;have:=congrArg (fun l=>l[0]?) a;simpa using this
def Q4{t e:ii}{k:IntKind}{i n off len cap:Nat}{s:Option Nat}(a:P.underlying t=ap (.slice e))(b:bg P e=ap sz)(hi:i<len) :
  aS P t (jp (ap ⟨n,off,s⟩) len cap) (.int k (i:Int))=ap (i9 (ap ⟨n,off+i*sz,bi⟩)):=by
 simp only[aS,a,b,zA1,zA4,Int.toNat_natCast];rw[if_pos ⟨by omega,by omega⟩]
end
section
variable{P:io}
end
section
variable{P:io}{H:aa}{N:Nat}{E:Env}{ds:List Deferred}{ops:Array Oper}{rest:List Oper}{ty:ii}{pos:String}{after:Array Edge}{d i:Nat}{fps:List Fp}{anc:List Nat}{Q:ai -> aa -> Prop}
def Kz{t:ii}{x:i4}{lo hi a:Option i4}{v:gt}(F:List Nat)(hx:bd P N x=bv)(b:ik P N lo=bv)(c:ik P N hi=bv)(e:ik P N a=bv)(j:d<N)(k:∀ n∈F,H.get n≠bi)
  (m:∀ G:aa,(∀ n∈F,G.get n=H.get n)->cw P G t (bX E x) (qZ E lo) (qZ E hi) (qZ E a)=ap (v,G)) (o:∀ r∈fps,fw (anc.getD i 0) F [] (ae v++([]:List Bl).flatMap fun x=>gH x.l) r)
  (h:eV P ops anc rest (i+1) (⟨i,F,[],H.next,H.next⟩::fps) (bj N (cy E d v) ds) (ext H []) Q):mh P ops anc ⟨ap d,.slice t x lo hi a,ty,pos,after,bi⟩ rest i fps (bj N E ds) H Q :=
 sL (v:=v) (M:=[]) F rfl j k (fun G _ p=>gL (x:=.value v) (g:=G) (tn hx b c e (m G p)) ⟨rfl,rfl⟩) o h
end
end Go.Ax
namespace Go.Proofs.YtpohjcacnkhnkaaGreatDoor.Tq
open Go.Ax
abbrev Pure(f:FuncId)(args:List gt)(H:aa)(v:gt):Prop:=br Tryz.prog f args H (.ok v) H
abbrev Rs(n:Int):Int:=IntKind.i64.wrap n
def ak{n:Int}(a:-4000000000000<n)(b:n<4000000000000):Rs n=n:=by simp only[Rs,IntKind.wrap,IntKind.signed,IntKind.bits];simp;omega
def bA{k:Nat}(h:k<1000000):IntKind.i64.wrap ((k:Int)+1)=((k+1:Nat):Int):=by have:=ak (n:=(k:Int)+1) li li;rw[show IntKind.i64.wrap ((k:Int)+1)=_ from this]; omega
def Ce.cells(c:Ce):List Value:=[i7 i8 c.rune,i7 i8 c.look.fore,i7 i8 c.look.back,kw c.look.bold,kw c.look.under,kw c.look.inv]
def Ce.val(c:Ce):Value:=.agg #[i7 i8 c.rune,i7 i8 c.look.fore,i7 i8 c.look.back,kw c.look.bold,kw c.look.under,kw c.look.inv]
def aQ(l:List Ce):List Value:=l.flatMap Ce.cells
theorem cA(c:Ce)(l:List Ce):aQ (c::l)=c.cells++aQ l:=rfl
def eX(l m:List Ce):aQ (l++m)=aQ l++aQ m:=by simp[aQ]
def bP(l:List Ce):(aQ l).length=l.length*6:=by
 induction l with
 |nil=>rfl
 |cons c l a=>rw[cA,zB2,a]; simp[Ce.cells]; omega
def sE(l:List Ce):(aQ l).all one=true:=by
 induction l with
 |nil=>rfl
 |cons c l a=>rw[cA,List.all_append,a]; rfl
def j5(l:List Ce)(n:Nat):aX n (aQ l)=true:=by
 induction l with
 |nil=>rfl
 |cons c l a =>rw[cA];simp only[Ce.cells,zG1,zD0,aX,aV,a,zD8]
def tC(l:List Ce)(k:Nat):(aQ l).take (k*6)=aQ (l.take k):=by
 induction l generalizing k with
 |nil=>simp[aQ]
 |cons c l a =>
  cases k with
  |zero=>simp[aQ]
  |succ k=>rw[cA,List.take_succ_cons,cA,show (k+1)*6=c.cells.length+k*6 by simp[Ce.cells]; omega,List.take_append,zC3 li,zF9,a]
def pJ(l:List Ce)(k:Nat):(aQ l).drop (k*6)=aQ (l.drop k):=by
 induction l generalizing k with
 |nil=>simp[aQ]
 |cons c l a =>
  cases k with
  |zero=>simp[aQ]
  |succ k=>rw[cA,List.drop_succ_cons,show (k+1)*6=c.cells.length+k*6 by simp[Ce.cells]; omega,List.drop_append,zE8 li,zD0,zF9,a]
def Od{l:List Ce}{k:Nat}{c:Ce}(h:l[k]?=ap c):((aQ l).drop (k*6)).take 6=c.cells:=by
 rw[pJ];have:=tC (l.drop k) 1;rw[Nat.one_mul]at this;rw[this];have a:(l.drop k).take 1=[c]:=by rw[List.take_one,List.head?_drop,h]; rfl
 rw[a];rfl
def pQ{l:List Ce}{k:Nat}{c:Ce}(h:l[k]?=ap c):(aQ l)[k*6]?=ap (i7 i8 c.rune):=by
 have:=Od h;have a:(((aQ l).drop (k*6)).take 6)[0]?=ap (i7 i8 c.rune):=by rw[this]; rfl
 simpa using a
def r7(a new old:List Ce)(h:new.length<=old.length):cQ (aQ (a++old)) (a.length*6) (aQ new)=aQ (a++(new++old.drop new.length)):=by have e:a.length*6=(aQ a).length:=(bP a).symm;rw[eX,e,ng _ _ _ (by rw[bP,bP]; omega),bP,pJ,eX,eX]
def Ep(l:List Ce)(k:Nat)(c:Ce)(h:k<l.length):cQ (aQ l) (k*6) c.cells=aQ (l.set k c):=by
 have a:=r7 (l.take k) [c] (l.drop k) pp;rw[List.take_append_drop,zF1,Nat.min_eq_left li]at a;have b:aQ [c]=c.cells:=by simp[aQ]
 rw[b]at a;rw[a,List.set_eq_take_append_cons_drop,if_pos h];simp[List.drop_drop]
def QL:bg Tryz.prog 77=ap 6:=by kernel_rfl
def jP{len cap n:Nat}{s:Option Nat}{i:Int}{k:Nat}(hi:i=k)(a:k<len):aS Tryz.prog 56 (jp (ap ⟨n,0,s⟩) len cap) (i7 i8 i)=ap (i9 (ap ⟨n,k*6,bi⟩)):=by subst hi;rw[gP (e:=77) (sz:=6) ls ls li li];simp
def eP{len cap n:Nat}{s:Option Nat}{i:Int}{k:Nat}(hi:i=k)(a:k<len):aS Tryz.prog 39 (jp (ap ⟨n,0,s⟩) len cap) (i7 i8 i)=ap (i9 (ap ⟨n,k,bi⟩)):=by subst hi;rw[gP (e:=56) (sz:=1) ls ls li li];simp
def CM{len cap n off:Nat}{s:Option Nat}{i:Int}{k:Nat}(hi:i=k)(a:k<len):aS Tryz.prog 25 (jp (ap ⟨n,off,s⟩) len cap) (i7 i8 i)=ap (i9 (ap ⟨n,off+k,bi⟩)):=by subst hi;rw[gP (e:=5) (sz:=1) ls ls li li];simp
def ta{len cap n off:Nat}{s:Option Nat}{i:Int}{k:Nat}(hi:i=k)(a:k<len):aS Tryz.prog 22 (jp (ap ⟨n,off,s⟩) len cap) (i7 i8 i)=ap (i9 (ap ⟨n,off+k,bi⟩)):=by subst hi;rw[gP (e:=3) (sz:=1) ls ls li li];simp
abbrev gD(c:UInt8):Value:=.int .u8 (c.toNat:Int)
theorem ux(c:UInt8)(l:List UInt8):aq (c::l)=gD c::aq l:=rfl
def qt(l m:List UInt8):aq (l++m)=aq l++aq m:=by simp[aq]
def cR(l:List UInt8):(aq l).length=l.length:=by simp[aq]
def ri(l:List UInt8)(k:Nat):(aq l)[k]?=l[k]?.map gD:=by simp[aq]
def xd(l:List UInt8):(aq l).all one=true:=by simp[aq,one]
def p7(l:List UInt8)(n:Nat):aX n (aq l)=true:=by
 induction l with
 |nil=>rfl
 |cons c l a=>simp only[ux,aX,aV,a,zD8]
def El(l:List UInt8)(k:Nat):(aq l).drop k=aq (l.drop k):=by simp[aq]
def Fh(l:List UInt8)(k:Nat):(aq l).take k=aq (l.take k):=by simp[aq]
def bD(H:aa)(v:gt)(l:List UInt8):Prop :=
 (l=[]/\v=jp bi 0 0) \/
 (l≠[]/\∃ n a,v=jp (ap ⟨n,List.length a,bi⟩) l.length l.length/\bk H n=ap ⟨5,bv,aq (a++l)⟩) \/
 (l=[]/\∃ n off k L,v=jp (ap ⟨n,off,ap (k+1)⟩) 0 0/\bk H n=ap ⟨5,bv,L⟩/\off<=L.length) \/
 (l=[]/\∃ n,v=jp (ap ⟨n,0,ap 0⟩) 0 0/\bk H n=ap ⟨5,gc,[]⟩)
def bD.sl{H:aa}{v:gt}{l:List UInt8}(h:bD H v l):∃ a,v=.slice a l.length l.length:=by rcases h with⟨rfl,rfl⟩|⟨_,n,b,rfl,_⟩|⟨rfl,n,off,k,L,rfl,_⟩|⟨rfl,n,rfl,_⟩<;>exact⟨_,rfl⟩
def bD.of{H G:aa}{v:gt}{l:List UInt8}(h:bD H v l)(b:∀ n∈ae v,G.get n=H.get n):bD G v l:=by
 rcases h with⟨rfl,rfl⟩|⟨h,n,c,rfl,a⟩|⟨rfl,n,off,k,L,rfl,a,e⟩|⟨rfl,n,rfl,a⟩
 .exact .inl ⟨rfl,rfl⟩
 .exact .inr (.inl ⟨h,n,c,rfl,(aO (b n ol)).trans a⟩)
 .exact .inr (.inr (.inl ⟨rfl,n,off,k,L,rfl,(aO (b n ol)).trans a,e⟩))
 .exact .inr (.inr (.inr ⟨rfl,n,rfl,(aO (b n ol)).trans a⟩))
def bD.ne{H:aa}{v:gt}{l:List UInt8}(h:bD H v l):∀ n∈ae v,H.get n≠none:=by rcases h with⟨rfl,rfl⟩|⟨h,n,c,rfl,a⟩|⟨rfl,n,off,k,L,rfl,a,e⟩|⟨rfl,n,rfl,a⟩<;>intro m b<;>simp only[ae,zA6,zF2]at b;all_goals (subst b; exact fI a)
def bD.get{H:aa}{v:gt}{l:List UInt8}(h:bD H v l){k:Nat}{c:UInt8}(b:l[k]?=ap c):∃ n off,aS Tryz.prog 25 v (i7 i8 (k:Int))=ap (i9 (ap ⟨n,off,bi⟩))/\n∈ae v/\∀ q,rl Tryz.prog 5 off (CW (bk H n) q)=ap (gD c):=by
 have a:k<l.length:=by
  rcases zC2 k l.length with h'|h'
  .exact h'
  .rw[zC5 h']at b; cases b
 rcases h with⟨rfl,rfl⟩|⟨h,n,e,rfl,g⟩|⟨rfl,n,off,_,L,rfl,g,_⟩|⟨rfl,n,rfl,g⟩
 .simp at a
 .have j:ey Tryz.prog 5=ap false:=by kernel_rfl
  refine⟨n,e.length+k,CM rfl a,by simp[ae],fun q=>?_⟩;rw[g,gN,lL j,ri,zG5 li,zF9,b];rfl
 .simp at a
 .simp at a
end Go.Proofs.YtpohjcacnkhnkaaGreatDoor.Tq
