/- Parts of the proof, one behind the other. -/
import Derived.Test.YtaojjfebkldmnaaDoorM7
import Derived.Test.YtaojjfebkldmnaaDoorM6
import Derived.Test.YtaojjfebkldmnaaDoorM4
import Derived.ChangeArms
import Derived.Test.YtaojjfebkldmnaaDoorRows
import Derived.ProofKit
import Derived.Carry
import Derived.OpenShut
import Derived.LaidMore
import Derived.Lay
set_option linter.all false
set_option maxRecDepth 10000
set_option maxHeartbeats 16000000
open And renaming intro → zA0
open Option renaming bind_eq_bind → zA1, bind_eq_some_iff → zA2, bind_some → zA3, map_some → zA7, map_eq_some_iff → zB0
open Nat renaming le_refl → zA4, le_of_ble_eq_true → zA9, zero_le → zB2, zero_add → zB6, lt_or_ge → zC4, lt_succ_self → zC7, le_trans → zD1, lt_of_lt_of_le → zD2, add_zero → zD8, zero_mul → zE8, le_of_eq → zE9, sub_self → zF7, eq_of_beq_eq_true → zF9, add_sub_cancel_left → zG3
open Bool renaming and_eq_true → zA5, false_eq_true → zC2, not_true → zD3, and_self → zD5, not_false → zE1
open List renaming getElem?_eq_getElem → zA6, mem_singleton → zA8, mem_cons → zB1, mem_cons_of_mem → zB3, length_cons → zB4, mem_append → zB5, length_append → zB7, nil_append → zB8, map_cons → zB9, all_eq_true → zC0, mem_of_getElem? → zC1, length_nil → zC3, length_drop → zC5, mem_flatMap → zC6, append_nil → zC8, getD_eq_getElem?_getD → zC9, eq_nil_of_length_eq_zero → zD0, getElem?_eq_some_iff → zD4, drop_zero → zD6, mem_cons_self → zD7, length_take → zD9, getElem?_eq_none → zE0, mem_append_right → zE2, drop_eq_nil_of_le → zE3, mem_append_left → zE4, mem_of_mem_take → zE5, mem_of_mem_drop → zE6, getElem?_cons_zero → zF0, take_of_length_le → zF1, flatMap_cons → zF2, mem_range → zF3, cons_append → zF4, map_nil → zF5, take_length → zF6, getElem?_cons_succ → zF8, drop_drop → zG0, append_assoc → zG1, drop_eq_getElem_cons → zG2
open Int renaming toNat_natCast → zE7

namespace Go.Proofs.YtaojjfebkldmnaaDoor
open Go.Ax
theorem whole_head {l:List Ce} (h:wholeB l=true):nh l:=by
 intro c hc
 cases l with
 |nil=>cases hc
 |cons x l=>cases hc; exact (whole_cases h).2.2.1
theorem whole_wide:∀ (n:Nat) (l:List Ce) (j:Nat) (c:Ce),l.length≤n→wholeB l=true→l[j]?=some c→cellsR c.rune=2→l[j+1]?=some (c.look.ce (-1))
 |_,[],j,c,_,_,h,_=>by simp at h
 |0,_::_,_,_,hn,_,_,_=>by simp at hn
 |n+1,x::l,j,c,hn,hw,h,h2=>by
  simp only[zB4]at hn
  obtain⟨h0,hcl,hr,h1|⟨h3,l',e,h1⟩⟩:=whole_cases hw
  ·cases j with
   |zero=>cases h; exact absurd h2 h1.1
   |succ j=>exact whole_wide n l j c (by omega) h1.2 h h2
  ·subst e
   cases j with
   |zero=>cases h; rfl
   |succ j =>
    cases j with
    |zero=>cases h; exact absurd h2 (show ¬cellsR (-1)=2 by decide)
    |succ j=>exact whole_wide n l' j c (by simp at hn; omega) h1 h h2
theorem whole_half:∀ (n:Nat) (l:List Ce) (j:Nat) (d:Ce),l.length≤n→wholeB l=true→l[j+1]?=some d→d.rune=-1→∃ c,l[j]?=some c∧cellsR c.rune=2
 |_,[],j,c,_,_,h,_=>by simp at h
 |0,_::_,_,_,hn,_,_,_=>by simp at hn
 |n+1,x::l,j,d,hn,hw,h,h2=>by
  simp only[zB4]at hn
  obtain⟨h0,hcl,hr,h1|⟨h3,l',e,h1⟩⟩:=whole_cases hw
  ·cases j with
   |zero=>exact absurd h2 (whole_head h1.2 d h)
   |succ j=>exact whole_half n l j d (by omega) h1.2 h h2
  ·subst e
   cases j with
   |zero=>exact⟨x,rfl,h3⟩
   |succ j =>
    cases j with
    |zero=>exact absurd h2 (whole_head h1 d h)
    |succ j=>exact whole_half n l' j d (by simp at hn; omega) h1 h h2
theorem half_eq {a b:List Ce} {j:Nat} {d:Ce} (ha:wholeB a=true) (hb:wholeB b=true) (he:a[j]?=b[j]?) (hd:a[j+1]?=some d) (hr:d.rune=-1):b[j+1]?=some d:=by
 obtain⟨c,hc,h2⟩:=whole_half _ a j d (zA4 _) ha hd hr
 have h3:=whole_wide _ a j c (zA4 _) ha hc h2
 have h4:=whole_wide _ b j c (zA4 _) hb (he▸hc) h2
 rw[hd]at h3
 rw[h4,h3]
theorem nh_drop {l:List Ce} {j:Nat}:nh (l.drop j) ↔ ∀ c,l[j]?=some c→c.rune≠-1:=by
 unfold nh
 rw[List.getElem?_drop,zD8]
theorem skipR_eq (a b:List Ce):∀ f i j,i≤j→j<skipR a b i f→a[j]?=b[j]?
 |0,i,j,h1,h2=>by rw[skipR]at h2; omega
 |f+1,i,j,h1,h2=>by
  rw[skipR]at h2
  split at h2
  ·rename_i he
   rcases Nat.eq_or_lt_of_le h1 with rfl|h3
   ·exact he
   ·exact skipR_eq a b f (i+1) j h3 h2
  ·omega
theorem row_skip {a b:List Ce} {i s:Nat} (ha:wholeB a=true) (hb:wholeB b=true) (hab:a.length=b.length) (his:i≤s) (hs:s≤b.length) (heq:∀ j,i≤j→j<s→a[j]?=b[j]?) (hi:nh (b.drop i)) (hn:nh (b.drop s)):b.take i++hd0 (a.drop i)=b.take s++hd0 (a.drop s):=by
 rcases Nat.eq_or_lt_of_le his with rfl|h
 ·rfl
 have h1:nh (a.drop i):=nh_drop.2 fun c hc=>nh_drop.1 hi c (heq i (zA4 _) h▸hc)
 have h2:nh (a.drop s):=nh_drop.2 fun c hc hr=>by
  obtain⟨s',rfl⟩:∃ s',s=s'+1:=⟨s-1,by omega⟩
  exact nh_drop.1 hn c (half_eq ha hb (heq s' (by omega) (by omega)) hc hr) hr
 rw[nh_hd0 h1,nh_hd0 h2]
 apply List.ext_getElem?
 intro j
 rcases zC4 j s with h3|h3
 ·rw[List.getElem?_append_left (l₁:=b.take s) (by rw[zD9]; omega),List.getElem?_take,if_pos h3]
  rcases zC4 j i with h4|h4
  ·rw[List.getElem?_append_left (by rw[zD9]; omega),List.getElem?_take,if_pos h4]
  ·rw[List.getElem?_append_right (by rw[zD9]; omega),List.getElem?_drop,zD9,Nat.min_eq_left (by omega),show i+(j-i)=j by omega]
   exact heq j h4 h3
 ·rw[List.getElem?_append_right (by rw[zD9]; omega),List.getElem?_append_right (by rw[zD9]; omega),List.getElem?_drop,List.getElem?_drop,zD9,zD9,Nat.min_eq_left (by omega),Nat.min_eq_left (by omega)]
  congr 1; omega
def runL (W:Nat):List Op→St→Option St
 |[],x=>some x
 |o::l,x=>(x.does W ptsR o).bind (runL W l)
theorem runL_app (W:Nat):∀ (l m:List Op) (x y:St),runL W l x=some y→runL W (l++m) x=runL W m y
 |[],m,x,y,h=>by cases h; rfl
 |o::l,m,x,y,h=>by
  rw[zF4,runL]
  rw[runL]at h
  cases hd:x.does W ptsR o with
  |none=>rw[hd]at h; cases h
  |some z =>
   rw[hd]at h
   exact runL_app W l m z y h
theorem runL_all (W:Nat):∀ (l:List Op) (i:Nat) (x y:St),runL W l x=some y→St.all W ptsR l i x=.inl y
 |[],i,x,y,h=>by cases h; rfl
 |o::l,i,x,y,h=>by
  rw[runL]at h
  rw[St.all]
  cases hd:x.does W ptsR o with
  |none=>rw[hd]at h; cases h
  |some z =>
   rw[hd]at h
   exact runL_all W l (i+1) z y h
theorem does_M {W:Nat} {x:St} {r c:Nat} (h1:r<x.grid.length) (h2:c<W):x.does W ptsR (opM r c)=some {x with row:=(r:Int),col:=(c:Int)}:=by
 have:(decide (0≤(r:Int))&&decide ((r:Int)<x.grid.length)&&decide (0≤(c:Int))&&decide ((c:Int)<W))=true:=by
  simp only[zA5,decide_eq_true_eq]; omega
 unfold St.does
 rw[if_pos (show (opM r c).kind=1 from rfl)]
 exact if_pos this
theorem does_L {W:Nat} {x:St} {k:Lk} (h:colr k=true):x.does W ptsR (opL k)=some {x with pen:=k}:=by
 unfold St.does
 rw[if_neg (show ¬(opL k).kind=1 from by show ¬(2:Int)=1; decide),if_pos (show (opL k).kind=2 from rfl)]
 exact if_pos h
theorem set_self {G:List (List Ce)} {r:Nat} {l:List Ce} (h:G[r]?=some l):G.set r l=G:=by
 obtain⟨h1,h2⟩:=zD4.1 h
 subst h2
 exact List.set_getElem_self h1
theorem set_get {G:List (List Ce)} {r:Nat} {l m:List Ce} (h:G[r]?=some l):(G.set r m)[r]?=some m:=by
 obtain⟨h1,_⟩:=zD4.1 h
 rw[List.getElem?_set_self h1]
theorem does_T {W:Nat} {G:List (List Ce)} {sr sc:Int} {k:Lk} {sh:Bool} {r:Nat} {P Z A:List Ce} (hG:G[r]?=some (P++Z)) (hw:wholeB A=true) (hk:∀ c∈A,c.look=k) (hZ:nh Z) (hl:A.length≤Z.length) (hW:P.length+Z.length=W) :
  St.does W ptsR ⟨G,sr,sc,k,(r:Int),(P.length:Int),sh⟩ (opT (strR (runesR A)))=some ⟨G.set r (P++A++hd0 (Z.drop A.length)),sr,sc,k,(r:Int),((P.length+A.length:Nat):Int),sh⟩:=by
 have hp:ptsR (strR (runesR A)).data.toList=some (runesR A):=strR_pts _ fun c hc=>by
  simp only[runesR,List.mem_filter,List.mem_map,decide_eq_true_eq]at hc
  obtain⟨⟨q,h1,rfl⟩,h2⟩:=hc
  exact wholeB_isR _ A (zA4 _) hw q h1 h2
 have hf:=fits_at _ A W P.length (zA4 _) hw (by omega)
 have hgd:G.getD r []=P++Z:=by rw[zC9,hG]; rfl
 have hput:=putAll_at _ A P Z k (zA4 _) hw hk hZ hl
 unfold St.does
 rw[if_neg (show ¬(opT (strR (runesR A))).kind=1 from by show ¬(3:Int)=1; decide),if_neg (show ¬(opT (strR (runesR A))).kind=2 from by show ¬(3:Int)=2; decide),if_pos (show (opT (strR (runesR A))).kind=3 from rfl)]
 simp only[show (opT (strR (runesR A))).text=strR (runesR A) from rfl,hp,hf,if_true,zE7,hgd,hput]
theorem write_run (W:Nat):∀ (f:Nat) (L P Z:List Ce) (G:List (List Ce)) (sr sc:Int) (k:Lk) (sh:Bool) (r:Nat),L.length≤f→wholeB L=true→nh Z→L.length≤Z.length→P.length+Z.length=W→G[r]?=some (P++Z) →
  runL W (writeR f L k).1 ⟨G,sr,sc,k,(r:Int),(P.length:Int),sh⟩=some ⟨G.set r (P++L++hd0 (Z.drop L.length)),sr,sc,(writeR f L k).2,(r:Int),((P.length+L.length:Nat):Int),sh⟩
 |f,[],P,Z,G,sr,sc,k,sh,r,_,_,hZ,_,_,hG=>by
  rw[writeR_nil]
  simp only[runL,zC8,zC3,zD6,nh_hd0 hZ,set_self hG,zD8]
 |0,_::_,_,_,_,_,_,_,_,_,hn,_,_,_,_,_=>by simp at hn
 |f+1,c::L',P,Z,G,sr,sc,k,sh,r,hn,hw,hZ,hl,hW,hG=>by
  obtain⟨L,hL⟩:∃ L,c::L'=L:=⟨_,rfl⟩
  have hcol:colr c.look=true:=(whole_cases hw).2.1
  obtain⟨n,hsp⟩:∃ n,spanR c.look L=n:=⟨_,rfl⟩
  have h1:=span_whole _ L c.look (zA4 _) (hL▸hw)
  have hpos:1≤n:=by rw[←hsp,←hL]; exact spanR_pos c L'
  have hle:n≤L.length:=hsp▸spanR_le c.look L
  rw[hsp]at h1
  have hwr:writeR (f+1) (c::L') k=((if c.look=k then [] else [opL c.look])++opT (strR (runesR (L.take n)))::(writeR f (L.drop n) c.look).1,(writeR f (L.drop n) c.look).2):=by
   rw[writeR,hL,hsp]
  rw[hwr,hL]
  rw[hL]at hn hw hl
  have hA:(L.take n).length=n:=by rw[zD9]; omega
  have hfirst:runL W (if c.look=k then [] else [opL c.look]) ⟨G,sr,sc,k,(r:Int),(P.length:Int),sh⟩=some ⟨G,sr,sc,c.look,(r:Int),(P.length:Int),sh⟩:=by
   split
   ·rename_i he; rw[he]; rfl
   ·rw[runL,does_L hcol]; rfl
  rw[runL_app W _ _ _ _ hfirst,runL,does_T hG h1.1 h1.2.2 hZ (by omega) hW,zA3,hA]
  have ih:=write_run W f (L.drop n) (P++L.take n) (hd0 (Z.drop n)) (G.set r (P++L.take n++hd0 (Z.drop n))) sr sc c.look sh r (by rw[zC5]; omega) h1.2.1 (hd0_nh _) (by rw[hd0_len,zC5,zC5]; omega) (by rw[hd0_len,zB7,hA,zC5]; omega) (set_get hG)
  rw[zB7,hA]at ih
  rw[ih]
  have e1:P++L.take n++L.drop n=P++L:=by rw[zG1,List.take_append_drop]
  have e2:hd0 ((hd0 (Z.drop n)).drop (L.drop n).length)=hd0 (Z.drop L.length):=by
   rw[hd0_drop,zG0,zC5]; congr 2; omega
  rw[e1,e2,List.set_set,zC5,show P.length+n+(L.length-n)=P.length+L.length by omega]
theorem runs_run {W:Nat} {L P Z:List Ce} {G:List (List Ce)} {sr sc row0 col0:Int} {k:Lk} {sh:Bool} {r:Nat} (hw:wholeB L=true) (hZ:nh Z) (hl:L.length≤Z.length) (hW:P.length+Z.length=W) (hpos:0<Z.length) (hG:G[r]?=some (P++Z)) :
  runL W (runsR r P.length L k).1 ⟨G,sr,sc,k,row0,col0,sh⟩=some ⟨G.set r (P++L++hd0 (Z.drop L.length)),sr,sc,(runsR r P.length L k).2,(r:Int),((P.length+L.length:Nat):Int),sh⟩:=by
 simp only[runsR]
 rw[runL,does_M (zD4.1 hG).1 (by omega),zA3]
 exact write_run W L.length L P Z G sr sc k sh r (zA4 _) hw hZ hl hW hG
def blankF (b:List Ce) (e:Nat):Prop:=∀ j c,e≤j→b[j]?=some c→c=Ce.sp
theorem tailR_blank (l:List Ce):∀ e,(∀ j c,e≤j→l[j]?=some c→c=Ce.sp)→blankF l (tailR l e)
 |0,h=>h
 |e+1,h=>by
  rw[tailR]
  split
  ·rename_i he
   refine tailR_blank l e fun j c hj hc=>?_
   rcases Nat.eq_or_lt_of_le hj with rfl|h3
   ·rw[he]at hc; exact (Option.some.inj hc).symm
   ·exact h j c h3 hc
  ·exact h
theorem gapR_gt (a b:List Ce):∀ f i td k,0<f→k<8→a[i]?≠b[i]?→td≤i→i<gapR a b i td k f
 |0,_,_,_,h,_,_,_=>by omega
 |f+1,i,td,k,_,hk,hne,_=>by
  rw[gapR,if_pos hk,if_neg hne]
  have:=gapR_le a b f (i+1) (i+1) 0 (zA4 _)
  omega
theorem pieces_run {W r e:Nat} {a b:List Ce} {sr sc:Int} {sh:Bool} (ha:wholeB a=true) (hb:wholeB b=true) (hal:a.length=W) (hbl:b.length=W) (he:e≤W) (hbf:blankF b e) :
  ∀ (f i:Nat) (k:Lk) (G:List (List Ce)) (row0 col0:Int),i≤e→nh (b.drop i)→W+1≤f+i→G[r]?=some (b.take i++hd0 (a.drop i)) →
   ∃ row1 col1,runL W (piecesR r a b e f i k).1 ⟨G,sr,sc,k,row0,col0,sh⟩=some ⟨G.set r (b.take e++hd0 (a.drop e)),sr,sc,(piecesR r a b e f i k).2,row1,col1,sh⟩
 |0,i,k,G,row0,col0,hi,_,hf,_=>by omega
 |f+1,i,k,G,row0,col0,hi,hni,hf,hG=>by
  obtain⟨s,hs⟩:∃ s,skipR a b i (e-i)=s:=⟨_,rfl⟩
  have hsg:=skipR_ge a b (e-i) i
  have hse:=skipR_eq a b (e-i) i
  have hsd:=skipR_ne a b (e-i) i
  rw[hs]at hsg hse hsd
  obtain⟨t0,ht0⟩:∃ t,gapR a b s s 0 (e-s)=t:=⟨_,rfl⟩
  have htg:=gapR_le a b (e-s) s s 0 (zA4 _)
  rw[ht0]at htg
  have hp:pieceR a b i e=(s,half9 b s t0):=by simp only[pieceR,hs,ht0]
  have hns:nh (b.drop s):=nh_drop.2 fun c hc hr=>by
   rcases Nat.eq_or_lt_of_le hsg.1 with h|h
   ·subst h; exact nh_drop.1 hni c hc hr
   rcases Nat.eq_or_lt_of_le (show s≤e by omega) with h2|h2
   ·have:=hbf s c (by omega) hc
    rw[this]at hr
    exact absurd hr (by decide)
   ·obtain⟨s',rfl⟩:∃ s',s=s'+1:=⟨s-1,by omega⟩
    have hx:=half_eq hb ha (hse s' (by omega) (by omega)).symm hc hr
    exact hsd (by omega) (by rw[hx,hc])
  have hskip:=row_skip ha hb (by omega) hsg.1 (by omega) hse hni hns
  rw[hskip]at hG
  by_cases hst:s<e
  ·have hgt:=gapR_gt a b (e-s) s s 0 (by omega) (by decide) (hsd (by omega)) (zA4 _)
   rw[ht0]at hgt
   obtain⟨t,ht⟩:∃ t,half9 b s t0=t:=⟨_,rfl⟩
   have htf:t0≤t∧t≤e∧nh (b.drop t):=by
    rw[←ht,half9]
    split
    ·rename_i hc
     obtain⟨c,hc1,hc2⟩:∃ c,b[t0]?=some c∧c.rune=-1:=by
      cases hb0:b[t0]? with
      |none=>rw[hb0]at hc; simp at hc
      |some c=>rw[hb0]at hc; exact⟨c,rfl,by simpa using hc.2⟩
     have hlt:t0<e:=by
      rcases zC4 t0 e with h|h
      ·exact h
      ·have:=hbf t0 c h hc1
       rw[this]at hc2
       exact absurd hc2 (by decide)
     refine⟨by omega,by omega,nh_drop.2 fun d hd hr=>?_⟩
     obtain⟨c',h1,h2⟩:=whole_half _ b t0 d (zA4 _) hb hd hr
     rw[hc1]at h1
     cases h1
     rw[hc2]at h2
     exact absurd h2 (by decide)
    ·rename_i hc
     refine⟨zA4 _,by omega,nh_drop.2 fun d hd hr=>hc ⟨hgt,by rw[hd]; simp[hr]⟩⟩
   rw[ht]at hp
   have hst':(pieceR a b i e).1<(pieceR a b i e).2:=by rw[hp]; show s<t; omega
   rw[piecesR,if_pos hst',hp]
   simp only
   obtain⟨L,hL⟩:∃ L,(b.take t).drop s=L:=⟨_,rfl⟩
   have hLl:L.length=t-s:=by rw[←hL,zC5,zD9]; omega
   have hbt:b.take t=b.take s++L:=by
    rw[←hL,List.drop_take,←List.take_add,show s+(t-s)=t by omega]
   have hwL:wholeB L=true:=by
    have h1:wholeB (b.take t++b.drop t)=true:=by rw[List.take_append_drop]; exact hb
    have h2:=(whole_app _ _ _ (zA4 _) h1 htf.2.2).1
    rw[hbt]at h2
    have h3:nh L:=by
     intro c hc
     refine nh_drop.1 hns c ?_
     rw[←hL,List.getElem?_drop,zD8,List.getElem?_take,if_pos (by omega)]at hc
     exact hc
    exact (whole_app _ _ _ (zA4 _) h2 h3).2
   have hPl:(b.take s).length=s:=by rw[zD9]; omega
   have hrun:=runs_run (W:=W) (L:=L) (P:=b.take s) (Z:=hd0 (a.drop s)) (G:=G) (sr:=sr) (sc:=sc) (row0:=row0) (col0:=col0) (k:=k) (sh:=sh) (r:=r) hwL (hd0_nh _) (by rw[hd0_len,zC5]; omega) (by rw[hd0_len,zC5]; omega) (by rw[hd0_len,zC5]; omega) hG
   rw[hPl,hLl]at hrun
   have hrow:b.take s++L++hd0 ((hd0 (a.drop s)).drop (t-s))=b.take t++hd0 (a.drop t):=by
    rw[hbt,hd0_drop,zG0,show s+(t-s)=t by omega]
   rw[hrow]at hrun
   have ih:=pieces_run (r:=r) (sr:=sr) (sc:=sc) (sh:=sh) ha hb hal hbl he hbf f t (runsR r s L k).2 (G.set r (b.take t++hd0 (a.drop t))) r ((s+(t-s):Nat):Int) htf.2.1 htf.2.2 (by omega) (set_get hG)
   obtain⟨row1,col1,ih⟩:=ih
   refine⟨row1,col1,?_⟩
   rw[hL,runL_app W _ _ _ _ hrun,ih,List.set_set]
  ·have hes:s=e:=by omega
   have hpn:¬(pieceR a b i e).1<(pieceR a b i e).2:=by
    rw[hp]
    show ¬s<half9 b s t0
    rw[half9,if_neg (by omega)]
    omega
   rw[piecesR_none hpn]
   refine⟨row0,col0,?_⟩
   rw[hes]at hG
   simp only[runL,set_self hG]
theorem clearL_at:∀ (n:Nat) (P Z:List Ce),Z.length=n→nh Z→clearL (P++Z) P.length n=P++List.replicate n Ce.sp
 |0,P,Z,h,_=>by rw[zD0 h]; simp[clearL]
 |n+1,P,[],h,_=>by simp at h
 |n+1,P,z::Z,h,hz=>by
  rw[clearL,setP_at (hz z rfl)]
  have e2:P++Ce.sp::hd0 Z=(P++[Ce.sp])++hd0 Z:=by simp
  have e3:P.length+1=(P++[Ce.sp]).length:=by simp
  rw[e2,e3,clearL_at n (P++[Ce.sp]) (hd0 Z) (by rw[hd0_len]; simpa using h) (hd0_nh _),List.replicate_succ]
  simp
theorem line_run {W r:Nat} {a b:List Ce} {sr sc row0 col0:Int} {sh:Bool} {k:Lk} {G:List (List Ce)} (ha:wholeB a=true) (hb:wholeB b=true) (hal:a.length=W) (hbl:b.length=W) (hG:G[r]?=some a) :
  ∃ row1 col1,runL W (lineR r a b k).1 ⟨G,sr,sc,k,row0,col0,sh⟩=some ⟨G.set r b,sr,sc,(lineR r a b k).2,row1,col1,sh⟩:=by
 obtain⟨e,he⟩:∃ e,tailR b b.length=e:=⟨_,rfl⟩
 have hel:e≤W:=by rw[←he,←hbl]; exact tailR_le b b.length
 have hbf:blankF b e:=he▸tailR_blank b b.length fun j c hj hc=>by
  rw[zE0 hj]at hc; cases hc
 have h0:b.take 0++hd0 (a.drop 0)=a:=by simp[nh_hd0 (whole_head ha)]
 have hne:nh (b.drop e):=nh_drop.2 fun c hc=>by rw[hbf e c (zA4 _) hc]; decide
 obtain⟨row1,col1,h1⟩:=pieces_run (r:=r) (sr:=sr) (sc:=sc) (sh:=sh) ha hb hal hbl hel hbf (b.length+1) 0 k G row0 col0 (zB2 _) (by rw[zD6]; exact whole_head hb) (by omega) (by rw[h0]; exact hG)
 simp only[lineR,he]
 rw[runL_app W _ _ _ _ h1]
 by_cases hd:a.drop e=b.drop e
 ·refine⟨row1,col1,?_⟩
  rw[endR,if_pos hd,hd,nh_hd0 hne,List.take_append_drop]
  rfl
 ·have hlt:e<W:=by
   rcases zC4 e W with h|h
   ·exact h
   ·exact absurd (by rw[zE3 (by omega),zE3 (by omega)]) hd
  obtain⟨K,hK⟩:∃ K,(piecesR r a b e (b.length+1) 0 k).2=K:=⟨_,rfl⟩
  rw[hK]
  have hG1:=set_get (m:=b.take e++hd0 (a.drop e)) hG
  obtain⟨G1,hG1e⟩:∃ G1,G.set r (b.take e++hd0 (a.drop e))=G1:=⟨_,rfl⟩
  rw[hG1e]at hG1 ⊢
  have hPl:(b.take e).length=e:=by rw[zD9]; omega
  have hZl:(hd0 (a.drop e)).length=W-e:=by rw[hd0_len,zC5]; omega
  have hcl:=clearL_at (W-e) (b.take e) (hd0 (a.drop e)) hZl (hd0_nh _)
  rw[hPl]at hcl
  have hb2:b.take e++List.replicate (W-e) Ce.sp=b:=by
   have:List.replicate (W-e) Ce.sp=b.drop e:=by
    symm
    refine List.eq_replicate_iff.2 ⟨by rw[zC5]; omega,fun c hc=>?_⟩
    obtain⟨j,hj⟩:=List.getElem?_of_mem hc
    rw[List.getElem?_drop]at hj
    exact hbf (e+j) c (by omega) hj
   rw[this,List.take_append_drop]
  refine⟨(r:Int),(e:Int),?_⟩
  rw[endR,if_neg hd,runL,does_M (zD4.1 hG1).1 hlt,zA3,runL]
  have hdo:St.does W ptsR ⟨G1,sr,sc,K,(r:Int),(e:Int),sh⟩ (opK 4)=some ⟨G1.set r b,sr,sc,K,(r:Int),(e:Int),sh⟩:=by
   unfold St.does
   rw[if_neg (show ¬(opK 4).kind=1 from by show ¬(4:Int)=1; decide),if_neg (show ¬(opK 4).kind=2 from by show ¬(4:Int)=2; decide),if_neg (show ¬(opK 4).kind=3 from by show ¬(4:Int)=3; decide),if_pos (show (opK 4).kind=4 from rfl)]
   simp only
   rw[if_pos (by omega),zE7,zE7,zC9,hG1,Option.getD_some,hcl,hb2]
  rw[hdo,zA3,runL,←hG1e,List.set_set]
theorem rows_run {W:Nat} {sr sc:Int} {sh:Bool}:∀ (g h:List (List Ce)) (Q:List (List Ce)) (k:Lk) (row0 col0:Int),g.length=h.length→(∀ l∈g,wholeB l=true∧l.length=W)→(∀ l∈h,wholeB l=true∧l.length=W) →
  ∃ k1 row1 col1,runL W (rowsR Q.length g h k) ⟨Q++g,sr,sc,k,row0,col0,sh⟩=some ⟨Q++h,sr,sc,k1,row1,col1,sh⟩
 |[],[],Q,k,row0,col0,_,_,_=>⟨k,row0,col0,rfl⟩
 |[],_::_,_,_,_,_,hl,_,_=>by simp at hl
 |_::_,[],_,_,_,_,hl,_,_=>by simp at hl
 |a::g,b::h,Q,k,row0,col0,hl,hg,hh=>by
  have e1:Q++b::g=(Q++[b])++g:=by simp
  have e2:Q++b::h=(Q++[b])++h:=by simp
  have e3:Q.length+1=(Q++[b]).length:=by simp
  rw[rowsR]
  split
  ·rename_i he
   subst he
   rw[e1,e2,e3]
   exact rows_run g h (Q++[a]) k row0 col0 (by simpa using hl) (fun l hm=>hg l (zB3 _ hm)) (fun l hm=>hh l (zB3 _ hm))
  ·have hga:=hg a (by simp)
   have hhb:=hh b (by simp)
   obtain⟨row1,col1,h1⟩:=line_run (r:=Q.length) (sr:=sr) (sc:=sc) (row0:=row0) (col0:=col0) (sh:=sh) (k:=k) (G:=Q++a::g) hga.1 hhb.1 hga.2 hhb.2 (by rw[List.getElem?_append_right (zA4 _),zF7]; rfl)
   have hset:(Q++a::g).set Q.length b=Q++b::g:=by
    rw[List.set_append_right _ _ (zA4 _),zF7,List.set_cons_zero]
   rw[hset,e1]at h1
   rw[runL_app W _ _ _ _ h1,e2,e3]
   exact rows_run g h (Q++[b]) _ row1 col1 (by simpa using hl) (fun l hm=>hg l (zB3 _ hm)) (fun l hm=>hh l (zB3 _ hm))
theorem chk_all {g:List (List Ce)} {r c:Int} (h:chkR g r c=0):(∀ l∈g,wholeB l=true∧l.length=widG g)∧((0≤r∧r<(g.length:Int)∧0≤c∧c<(widG g:Int))∨(r=-1∧c=0)):=by
 unfold chkR at h
 cases h1:(decide ((g.length:Int)<1)||decide (200<(g.length:Int))) with
 |true=>rw[h1,cond_true]at h; omega
 |false =>
  rw[h1,cond_false]at h
  obtain⟨W,hW⟩:∃ W,widG g=W:=⟨_,rfl⟩
  rw[hW]at h ⊢
  cases h2:(decide ((W:Int)<1)||decide (1000<(W:Int))||(!(decide (0≤r)&&decide (r<(g.length:Int))&&decide (0≤c)&&decide (c<(W:Int)))&&!(decide (r=-1)&&decide (c=0)))) with
  |true=>rw[h2,cond_true]at h; omega
  |false =>
   rw[h2,cond_false]at h
   cases h3:okGrid W g with
   |false=>rw[h3,cond_false]at h; omega
   |true =>
    simp only[Bool.or_eq_false_iff,decide_eq_false_iff_not]at h2
    obtain⟨⟨w1,w2⟩,hp⟩:=h2
    refine⟨fun l hl=>?_,?_⟩
    ·have:=zC0.1 h3 l hl
     unfold okRow at this
     simp only[zA5,decide_eq_true_eq]at this
     exact⟨this.2,this.1⟩
    ·by_cases q:(r=-1∧c=0)
     ·exact .inr q
     ·left
      have:(decide (r=-1)&&decide (c=0))=false:=by
       by_cases q1:r=-1<;>by_cases q2:c=0<;>simp_all
      rw[this]at hp
      simp only[zE1,Bool.and_true,Bool.not_eq_false',zA5,decide_eq_true_eq]at hp
      exact⟨hp.1.1.1,hp.1.1.2,hp.1.2,hp.2⟩
theorem whole_sp:∀ n,wholeB (List.replicate n Ce.sp)=true
 |0=>rfl
 |n+1=>by
  have h1:cellsR Ce.sp.rune=1:=by kernel_rfl
  have h2:colr Ce.sp.look=true:=by kernel_rfl
  rw[List.replicate_succ,wholeB_cons,h1,h2,if_neg (by decide),if_neg (by decide)]
  exact whole_sp n
theorem roll_rows {W t b n:Nat} {g:List (List Ce)} {up:Bool} (h:∀ l∈g,wholeB l=true∧l.length=W):∀ l∈rollR W g t b n up,wholeB l=true∧l.length=W:=by
 have hf:∀ l∈List.replicate n (List.replicate W Ce.sp),wholeB l=true∧l.length=W:=fun l hl=>by
  rw[(List.mem_replicate.1 hl).2]
  exact⟨whole_sp W,by simp⟩
 intro l hl
 unfold rollR at hl
 simp only[zB5]at hl
 rcases hl with (hl|hl)|hl
 ·exact h l (zE5 hl)
 ·split at hl
  ·rcases zB5.1 hl with hl|hl
   ·exact h l (zE5 (zE6 (zE6 hl)))
   ·exact hf l hl
  ·rcases zB5.1 hl with hl|hl
   ·exact hf l hl
   ·exact h l (zE5 (zE6 (zE5 hl)))
 ·exact h l (zE6 hl)
theorem shift_run {g h:List (List Ce)} {r c:Int} (hl:g.length=h.length) (hc:chkR g r c=0) :
  runL (widG g) (shiftR g h).toList (St.start g r c)=some ⟨nowR g h r c,(St.start g r c).sr,(St.start g r c).sc,lk0,(St.start g r c).row,(St.start g r c).col,(St.start g r c).shown⟩∧∀ l∈nowR g h r c,wholeB l=true∧l.length=widG g:=by
 have hg:=(chk_all hc).1
 cases hs:shiftR g h with
 |none =>
  have hn:nowR g h r c=g:=by unfold nowR; rw[hs]
  rw[hn]
  exact⟨rfl,hg⟩
 |some x =>
  obtain⟨y,hy,hy2,-,-⟩:=shift_does hs hl hc
  obtain⟨t,b,i,k,rfl,hk,hi,hti,hb⟩:=shift_some hs hl
  have hn:nowR g h r c=y.grid:=by unfold nowR; rw[hs]; exact hy2
  have h1:(rollOp k t b i).kind=k:=rfl
  have hcond:(decide (0≤(rollOp k t b i).row)&&decide ((rollOp k t b i).row≤(rollOp k t b i).col)&&decide ((rollOp k t b i).col<(St.start g r c).grid.length)&&decide (1≤(rollOp k t b i).n)&&decide ((rollOp k t b i).n≤(rollOp k t b i).col-(rollOp k t b i).row+1))=true:=by
   simp only[rollOp,St.start,zA5,decide_eq_true_eq]
   have:(b:Int)≤(g.length:Int):=by omega
   refine⟨⟨⟨⟨?_,?_⟩,?_⟩,?_⟩,?_⟩
   all_goals (apply decide_eq_true; omega)
  have hd:(St.start g r c).does (widG g) ptsR (rollOp k t b i)=some {St.start g r c with grid:=rollR (widG g) g t (b-1) i (decide (k=5))}:=by
   unfold St.does
   rw[h1,if_neg (by omega),if_neg (by omega),if_neg (by omega),if_neg (by omega),if_pos hk,if_pos hcond]
   simp only[rollOp,St.start,zE7]
   rw[show ((b:Int)-1).toNat=b-1 by omega]
  rw[St.all,hd]at hy
  simp only[St.all,Sum.inl.injEq]at hy
  rw[hn,←hy]
  refine⟨?_,roll_rows hg⟩
  rw[Option.toList_some,runL,hd]
  rfl
theorem anew_law {g h:List (List Ce)} {r c r2 c2:Int} (h1:chkR g r c=0) (h2:chkR h r2 c2=0) (hl:g.length=h.length) (hw:widG g=widG h) :
  ∃ y:St,St.all (widG g) ptsR (opsR g h r c r2 c2) 0 (St.start g r c)=.inl y∧y.grid=h∧y.atR=r2∧y.atC (widG g)=c2:=by
 obtain⟨hs,hnow⟩:=shift_run hl h1
 have hh:=chk_all h2
 have hnl:=(nowR_len (h:=h) hl h1).1
 obtain⟨k1,row1,col1,hr⟩:=rows_run (W:=widG g) (sr:=(St.start g r c).sr) (sc:=(St.start g r c).sc) (sh:=(St.start g r c).shown) (nowR g h r c) h [] lk0 (St.start g r c).row (St.start g r c).col (by omega) hnow (fun l hm=>hw▸hh.1 l hm)
 simp only[zB8,zC3]at hr
 have hrun:∀ y,runL (widG g) (curR r2 c2) ⟨h,(St.start g r c).sr,(St.start g r c).sc,k1,row1,col1,(St.start g r c).shown⟩=some y→St.all (widG g) ptsR (opsR g h r c r2 c2) 0 (St.start g r c)=.inl y:=fun y hy=>by
  refine runL_all _ _ 0 _ y ?_
  rw[opsR,zG1,runL_app _ _ _ _ _ hs,runL_app _ _ _ _ _ hr,hy]
 rcases hh.2 with⟨p1,p2,p3,p4⟩|⟨rfl,rfl⟩
 ·obtain⟨i,rfl⟩:∃ i:Nat,r2=i:=⟨r2.toNat,by omega⟩
  obtain⟨j,rfl⟩:∃ j:Nat,c2=j:=⟨c2.toNat,by omega⟩
  refine⟨_,hrun ⟨h,(St.start g r c).sr,(St.start g r c).sc,k1,(i:Int),(j:Int),true⟩ ?_,rfl,?_,?_⟩
  ·rw[curR,if_neg (by omega),runL,does_M (by show i<h.length; omega) (by omega)]
   rfl
  ·simp[St.atR]
  ·simp only[St.atC,if_true]
   omega
 ·refine⟨_,hrun ⟨h,(St.start g r c).sr,(St.start g r c).sc,k1,row1,col1,false⟩ rfl,rfl,rfl,rfl⟩
abbrev True1 (H:AHeap) (out:Out) (H1:AHeap):Prop:=out=.ok (.bool true)∧Mod [] H H1
def TxS (l:List Op):Prop:=∀ o∈l,o.text.data.toList.length≤1000
theorem TxS.nil:TxS []:=fun o h=>by cases h
theorem TxS.app {l m:List Op} (h:TxS l) (k:TxS m):TxS (l++m):=fun o ho=>(zB5.1 ho).elim (h o) (k o)
theorem TxS.cons {o:Op} {l:List Op} (h:o.text.data.toList.length≤1000) (k:TxS l):TxS (o::l):=fun q hq=>by
 rcases zB1.1 hq with rfl|hq
 ·exact h
 ·exact k q hq
theorem writeR_tx:∀ (f:Nat) (L:List Ce) (p:Lk),L.length≤200→TxS (writeR f L p).1
 |0,_,_,_=>TxS.nil
 |_+1,[],_,_=>TxS.nil
 |f+1,c::L,p,h=>by
  rw[writeR]
  refine TxS.app ?_ (TxS.cons ?_ (writeR_tx f _ _ (by rw[zC5]; omega)))
  ·split
   ·exact TxS.nil
   ·exact TxS.cons (zB2 _) TxS.nil
  ·have h1:=enc_len (runesR ((c::L).take (spanR c.look (c::L))))
   have h2:=runesR_len ((c::L).take (spanR c.look (c::L)))
   have h3:=List.length_take_le (spanR c.look (c::L)) (c::L)
   have h4:(opT (strR (runesR ((c::L).take (spanR c.look (c::L)))))).text.data.toList.length=((runesR ((c::L).take (spanR c.look (c::L)))).flatMap encR).length:=by simp[opT,strR]
   have h5:((c::L).take (spanR c.look (c::L))).length≤(c::L).length:=by rw[zD9]; omega
   omega
theorem piecesR_tx (row:Nat) (a b:List Ce) (e:Nat) (hb:b.length≤200):∀ (f i:Nat) (p:Lk),TxS (piecesR row a b e f i p).1
 |0,_,_=>TxS.nil
 |f+1,i,p=>by
  rw[piecesR]
  split
  ·refine TxS.app ?_ (piecesR_tx row a b e hb f _ _)
   exact TxS.cons (zB2 _) (writeR_tx _ _ _ (by rw[zC5,zD9]; omega))
  ·exact TxS.nil
theorem lineR_tx (row:Nat) (a b:List Ce) (hb:b.length≤200) (p:Lk):TxS (lineR row a b p).1:=by
 refine TxS.app (piecesR_tx row a b _ hb _ _ _) ?_
 unfold endR
 split
 ·exact TxS.nil
 ·exact TxS.cons (zB2 _) (TxS.cons (zB2 _) TxS.nil)
theorem rowsR_tx:∀ (g h:List (List Ce)) (i:Nat) (p:Lk),(∀ l∈h,l.length≤200)→TxS (rowsR i g h p)
 |[],h,i,p,_=>by cases h<;>exact TxS.nil
 |_::_,[],i,p,_=>TxS.nil
 |a::g,b::h,i,p,hw=>by
  rw[rowsR]
  split
  ·exact rowsR_tx g h _ _ fun l hl=>hw l (zB3 _ hl)
  ·exact TxS.app (lineR_tx i a b (hw b (by simp)) p) (rowsR_tx g h _ _ fun l hl=>hw l (zB3 _ hl))
theorem opsR_tx {g h:List (List Ce)} {r c r2 c2:Int} (hl:g.length=h.length) (hw:∀ l∈h,l.length≤200):TxS (opsR g h r c r2 c2):=by
 refine TxS.app (TxS.app ?_ (rowsR_tx _ _ _ _ hw)) ?_
 ·cases hs:shiftR g h with
  |none=>exact TxS.nil
  |some x =>
   obtain⟨t,b,i,k,rfl,-⟩:=shift_some hs hl
   exact TxS.cons (zB2 _) TxS.nil
 ·unfold curR
  split
  ·exact TxS.cons (zB2 _) TxS.nil
  ·exact TxS.cons (zB2 _) (TxS.cons (zB2 _) TxS.nil)
theorem opsV_err {g h:List (List Ce)} {r c r2 c2 e:Int} {l:List Op} (hv:opsV g h r c r2 c2=(l,e)) (he:¬e=0):l=[]:=by
 unfold opsV at hv
 split at hv
 ·cases hv; rfl
 split at hv
 ·cases hv; rfl
 split at hv
 ·cases hv; rfl
 ·cases hv; exact absurd rfl he
theorem opsV_ok {g h:List (List Ce)} {r c r2 c2:Int} {l:List Op} (hv:opsV g h r c r2 c2=(l,0)):chkR g r c=0∧chkR h r2 c2=0∧g.length=h.length∧widG g=widG h∧l=opsR g h r c r2 c2:=by
 unfold opsV at hv
 split at hv
 ·rename_i h1; exact absurd (Prod.mk.inj hv).2 h1
 rename_i h1
 split at hv
 ·rename_i h2; exact absurd (Prod.mk.inj hv).2 h2
 rename_i h2
 split at hv
 ·cases hv
 rename_i h3
 cases hv
 simp only[ne_eq,not_or,Decidable.not_not]at h1 h2 h3
 exact⟨h1,h2,h3.1,h3.2,rfl⟩
theorem rowsR_len:∀ (g h:List (List Ce)) (i:Nat) (p:Lk),(∀ l∈h,l.length≤60)→(rowsR i g h p).length≤h.length*182
 |[],h,i,p,_=>by cases h<;>simp[rowsR]
 |_::_,[],i,p,_=>by simp[rowsR]
 |a::g,b::h,i,p,hw=>by
  have h1:=rowsR_len g h (i+1) p fun l hl=>hw l (zB3 _ hl)
  have h2:=rowsR_len g h (i+1) (lineR i a b p).2 fun l hl=>hw l (zB3 _ hl)
  have h3:=lineR_len i a b p
  have h4:=hw b (by simp)
  rw[rowsR]
  simp only[zB4]
  split
  ·omega
  ·rw[zB7]; omega
theorem opsV_len {g h:List (List Ce)} {r c r2 c2:Int} (hl:h.length≤12) (hw:∀ l∈h,l.length≤60):(opsV g h r c r2 c2).1.length≤3000:=by
 unfold opsV
 split
 ·simp
 split
 ·simp
 split
 ·simp
 have h1:=rowsR_len (nowR g h r c) h 0 lk0 hw
 have h2:(shiftR g h).toList.length≤1:=by cases shiftR g h<;>simp
 have h3:(curR r2 c2).length≤2:=by unfold curR; split<;>simp
 simp only[opsR,zB7]
 omega
theorem law7_c (H:AHeap) (u1 u2:Value) (g h:List (List Ce)) (r c r2 c2:Int) (h1:GridS H u1 g) (h2:GridS H u2 h) (t:Tab H) (hT:1<H.next) (hok:H.base≤H.next) (hs1:scb H.next u1=true) (hs2:scb H.next u2=true) (dk:∀ G:AHeap,Tab G→1<G.next→Pure 6 [] G (.bool true)) :
  CallA Tryd.prog 7 [.agg ⟨[u1,.int .i64 r,.int .i64 c]⟩,.agg ⟨[u2,.int .i64 r2,.int .i64 c2]⟩] H (True1 H):=by
 have hs10:=hs1
 have hs20:=hs2
 obtain⟨x,hx⟩:∃ x,H.next=x:=⟨_,rfl⟩
 have hxb:H.base≤x:=hx▸hok
 obtain⟨a1,b1,e1⟩:=h1.at_.sl
 obtain⟨a2,b2,e2⟩:=h2.at_.sl
 rw[hx]at hs1 hs2
 have hs1':=hs1
 have hs2':=hs2
 rw[e1]at hs1'
 rw[e2]at hs2'
 refine callE_fn mixed Tryd.func7 rfl Tryd.ntmps7 (zA9 rfl) ?_
 rw[e1,e2]
 simp (maxDischargeDepth:=6) only[hx,hxb,hs1',hs2',xD,ruW,putL,Nat.reduceLeDiff,xF,ruU,entryE,Nat.reduceLT,Nat.reduceAdd,Nat.reduceMul,Nat.reduceEqDiff]
 rw[←e1,←e2]
 generalize hX:ext H _=Y
 have mY:Mod [] H Y:=hX▸Mod.ext hok
 have nY:Y.next=x+2:=by rw[←hX,ext_next,hx]; rfl
 have bY0:bk Y (x+0)=some ⟨24,false,[u1,.int .i64 r,.int .i64 c]⟩:=by rw[←hX,bk_at hx (by simp)]; rfl
 have bY1:bk Y (x+1)=some ⟨24,false,[u2,.int .i64 r2,.int .i64 c2]⟩:=by rw[←hX,bk_at hx (by simp)]; rfl
 clear hX
 have okY:=mY.ok hok
 obtain⟨y,hy⟩:∃ y,Y.next=y:=⟨_,rfl⟩
 have hyb:Y.base≤y:=hy▸okY
 have l0:x+0<y:=by omega
 have l1:x+1<y:=by omega
 have g1Y:=h1.at_.mod0 mY
 have g2Y:=h2.at_.mod0 mY
 have tY:Tab Y:=t.of (mY.get 0 (by omega) (by simp)) (mY.get 1 (by omega) (by simp))
 rw[show Y=ext Y [] from rfl]
 refine (dk (ext Y []) tY (by show 1<Y.next; omega)).to ?_
 simp (maxDischargeDepth:=6) only[hy,l0,bY0,xD,ruW,putL,Nat.reduceLeDiff,xF,ruU,entryE,Nat.reduceLT,Nat.reduceAdd,Nat.reduceMul,Nat.reduceEqDiff]
 refine (large_c (ext Y []) u1 g r c g1Y).to ?_
 cases hlg:largeR g with
 |true =>
  simp (maxDischargeDepth:=6) only[hy,l1,bY1,joinR_ret,Tryd.results7,xD,ruW,putL,Nat.reduceLeDiff,xF,ruU,entryE,Nat.reduceLT,Nat.reduceAdd,Nat.reduceMul,Nat.reduceEqDiff]
  exact⟨rfl,mY⟩
 |false =>
 simp (maxDischargeDepth:=6) only[hy,l1,bY1,xD,ruW,putL,Nat.reduceLeDiff,xF,ruU,entryE,Nat.reduceLT,Nat.reduceAdd,Nat.reduceMul,Nat.reduceEqDiff]
 refine (large_c (ext Y []) u2 h r2 c2 g2Y).to ?_
 cases hlh:largeR h with
 |true =>
  simp (maxDischargeDepth:=6) only[joinR_ret,Tryd.results7,xD,ruW,putL,Nat.reduceLeDiff,xF,ruU,entryE,Nat.reduceLT,Nat.reduceAdd,Nat.reduceMul,Nat.reduceEqDiff]
  exact⟨rfl,mY⟩
 |false =>
 obtain⟨hg12,hgw⟩:=largeR_false hlg
 obtain⟨hh12,hhw⟩:=largeR_false hlh
 simp (maxDischargeDepth:=6) only[hy,l0,l1,bY0,bY1,xD,ruW,putL,Nat.reduceLeDiff,xF,ruU,entryE,Nat.reduceLT,Nat.reduceAdd,Nat.reduceMul,Nat.reduceEqDiff]
 refine (ops13_c (ext Y []) u1 u2 g h r c r2 c2 (h1.mod0 mY) (h2.mod0 mY) okY hg12 hgw hh12 hhw (by show scb Y.next u1=true; rw[hy]; exact scb_mono (by omega) _ hs1) (by show scb Y.next u2=true; rw[hy]; exact scb_mono (by omega) _ hs2)).mono ?_
 rintro _ S ⟨mS,p1,rfl,op1,hp1⟩
 replace mS:Mod [] Y S:=mS
 obtain⟨⟨l,e⟩,hle⟩:∃ k,opsV g h r c r2 c2=k:=⟨_,rfl⟩
 rw[hle]at op1 ⊢
 simp only at op1 ⊢
 have okS:=mS.ok okY
 have mHS:=mY.trans mS
 have bS0:=(mS.bk (n:=x+0) (by omega) (by simp)).trans bY0
 have bS1:=(mS.bk (n:=x+1) (by omega) (by simp)).trans bY1
 obtain⟨s,hs⟩:∃ n,S.next=n:=⟨_,rfl⟩
 have hsn:=mS.next
 have ls0:x+0<s:=by omega
 have ls1:x+1<s:=by omega
 obtain⟨ap,ep⟩:=op1.len
 obtain⟨d,hd⟩:∃ d,decide (¬e=0)=d:=⟨_,rfl⟩
 rw[show S=ext S [] from rfl]
 cases d with
 |true =>
  have hne:=of_decide_eq_true hd
  have hnil:=opsV_err hle hne
  subst hnil
  rw[ep]
  simp (maxDischargeDepth:=6) only[hd,joinR_ret,Tryd.results7,zC3,xD,ruW,putL,Nat.reduceLeDiff,xF,ruU,entryE,Nat.reduceLT,Nat.reduceAdd,Nat.reduceMul,Nat.reduceEqDiff]
  exact⟨rfl,mHS⟩
 |false =>
 have he0:e=0:=by simpa using of_decide_eq_false hd
 rw[he0]at hle
 obtain⟨hc1,hc2,hgh,hwh,rfl⟩:=opsV_ok hle
 obtain⟨y',hall,hyg,hyr,hyc⟩:=anew_law hc1 hc2 hgh hwh
 have hav:appV g r c (opsR g h r c r2 c2)=(h,r2,c2,0,0):=by
  unfold appV
  rw[if_pos hc1,hall]
  simp only[hyg,hyr,hyc]
 have htx:=opsR_tx (g:=g) (r:=r) (c:=c) (r2:=r2) (c2:=c2) hgh (fun l hl=>by have:=hhw l hl; omega)
 have hll:=opsV_len (g:=g) (r:=r) (c:=c) (r2:=r2) (c2:=c2) hh12 hhw
 rw[hle]at hll
 simp only at hll
 have tS:Tab S:=tY.of (mS.get 0 (by omega) (by simp)) (mS.get 1 (by omega) (by simp))
 simp (maxDischargeDepth:=6) only[hd,hs,bS0,bS1,ls0,ls1,xD,ruW,putL,Nat.reduceLeDiff,xF,ruU,entryE,Nat.reduceLT,Nat.reduceAdd,Nat.reduceMul,Nat.reduceEqDiff]
 refine (apply_c (ext S []) u1 p1 g r c _ (h1.at_.mod0 mHS) op1.at_ tS (by show 2≤S.next; omega) okS (by show scb S.next u1=true; rw[hs]; exact scb_mono (by omega) _ hs1) (fun l hl=>by have:=hgw l hl; omega) (by omega) htx (by omega)).mono ?_
 intro out Z hap
 obtain⟨mZ,ua,rva,Na,rfl,hNa,own⟩:=hap.val
 rw[hav]at own ⊢
 simp only at own ⊢
 replace mZ:Mod [] S Z:=mZ
 have okZ:=mZ.ok okS
 have mHZ:=mHS.trans mZ
 have hzn:=mZ.next
 obtain⟨aua,cua,eua⟩:=own.grid.sl
 obtain⟨z,hz⟩:∃ n,Z.next=n:=⟨_,rfl⟩
 have hzb:Z.base≤z:=hz▸okZ
 have hsua:scb z ua=true:=by
  rcases own.at_ with⟨_,h⟩|⟨m,s,c',o,e,_,_,hm,_⟩
  ·rw[h]; rfl
  ·rw[e]; exact blt_of (show m<z by omega)
 have bZ1:=(mZ.bk (n:=x+1) (by omega) (by simp)).trans bS1
 have lz1:x+1<z:=by omega
 rw[show Z=ext Z [] from rfl,eua]
 rw[eua]at hsua
 have lz1':x+1<z+1:=by omega
 have lz0:z+0<z+1:=by omega
 have h00:decide ((0:Int)=0)=true:=by decide
 simp (maxDischargeDepth:=6) only[hz,hzb,hsua,lz1,lz1',lz0,bZ1,h00,decide_true,xD,ruW,putL,Nat.reduceLeDiff,xF,ruU,entryE,Nat.reduceLT,Nat.reduceAdd,Nat.reduceMul,Nat.reduceEqDiff]
 rw[←eua]
 generalize hW:ext Z _=W
 have mW:Mod [] Z W:=hW▸Mod.ext okZ
 clear hW
 have hgrid:GridAt W ua h:=own.grid.mod0 mW
 have hss:=sameScreens_c (ext W []) ua u2 h h r2 c2 r2 c2 hgrid (h2.at_.mod0 (mHZ.trans mW)) (by omega) (fun l hl=>by have:=hhw l hl; omega)
 rw[decide_eq_true ⟨rfl,rfl,rfl⟩]at hss
 rw[show W=ext W [] from rfl]
 refine hss.to ?_
 simp (maxDischargeDepth:=6) only[decide_true,Tryd.results7,xD,ruW,putL,Nat.reduceLeDiff,xF,ruU,entryE,Nat.reduceLT,Nat.reduceAdd,Nat.reduceMul,Nat.reduceEqDiff]
 exact⟨rfl,mHZ.trans mW⟩
end Go.Proofs.YtaojjfebkldmnaaDoor
namespace Go.Ax
open Go.ChangeShapes
section
variable {P : Program} {ρ : Ren} {H : AHeap} {w : World}
def roObj (e:TypeId) (vs:List Value):AObj:=⟨.cells #[] e (1,0),true,RV.ofList vs⟩
theorem roObj_fz {e:TypeId} {vs:List Value}:Fz (some (roObj e vs)):=⟨_,rfl,rfl⟩
def roH (H:AHeap) (e:TypeId) (vs:List Value):AHeap:=⟨rootPut H.root H.next (some (roObj e vs)),H.next+1,H.next+1,H.dirty⟩
theorem roH_get {e:TypeId} {vs:List Value} (m:Nat):(roH H e vs).get m=if m=H.next then some (roObj e vs) else H.get m:=rootPut_get _ _ _ _
theorem roH_rk {e:TypeId} {vs:List Value}:rk (roH H e vs) H.next=some ⟨e,true,vs⟩:=by
 rw[rk_eq]
 simp only[cellsR,roH_get,if_true,roObj,zA7,RV.n_ofList,RV.gets_ofList]
def isU8:Value→Bool
 |.int .u8 _=>true
 |_=>false
structure Ro (P:Program) (ρ:Ren) (H:AHeap) (w:World):Prop where
 rel:Rel P ρ H w
 base:H.base=H.next
 dirty:H.dirty=[]
 al:∀ n,H.get n≠none→Fz (H.get n)∨n<P.globals.size∧∃ c e,w.heap[n]?=some (.cells c e (0,0))∧∀ v∈c.toList,isU8 v=true
structure Gro (H H1:AHeap):Prop where
 next:H.next≤H1.next
 get:∀ n,n<H.next→H1.get n=H.get n
theorem Gro.refl:Gro H H:=⟨zA4 _,fun _ _=>rfl⟩
theorem Gro.trans {H1 H2:AHeap} (a:Gro H H1) (b:Gro H1 H2):Gro H H2:=⟨zD1 a.next b.next,fun n hn=>(b.get n (zD2 hn a.next)).trans (a.get n hn)⟩
theorem Ro.add (R:Ro P ρ H w) {b off:Nat} {e:TypeId} {c:Array Value} {fz:Nat × Nat} {vs:List Value} (hb:w.heap[b]?=some (.cells c e fz)) (hc:∀ i,i<vs.length→c[off+i]?=some (ρ.val (vs.getD i undef)))
  (hs:scbL H.next vs=true) (h0:∃ i,i<vs.length∧isU8 (ρ.val (vs.getD i undef))=false):Ro P (ρ.at H.next b off 0) (roH H e vs) w∧Ext H.next ρ (ρ.at H.next b off 0)∧Gro H (roH H e vs):=by
 have ex:=Ren.at_ext ρ H.next b off 0
 have r:=R.rel
 have hal:∀ n,H.get n≠none→ρ.blk n=b→Fz (H.get n):=fun n hn he=>by
  rcases R.al n hn with h|⟨hg,c',e',h1,h2⟩
  ·exact h
  ·rw[(r.glob.2 n hg).1]at he
   subst he
   rw[hb]at h1
   simp only[Option.some.injEq,Obj.cells.injEq]at h1
   obtain⟨i,hi,hu⟩:=h0
   have h3:=hc i hi
   rw[h1.1]at h3
   have:=h2 _ (Array.mem_toList_iff.2 (Array.mem_of_getElem? h3))
   rw[hu]at this
   cases this
 have hgr:Gro H (roH H e vs):=⟨Nat.le_succ _,fun n hn=>by rw[roH_get,if_neg (by omega)]⟩
 refine⟨⟨⟨zA4 _,⟨Nat.le_succ_of_le r.glob.1,fun g hg=>?_⟩,fun m n hm hn he=>?_,fun n o hn=>?_,fun n o hn=>?_⟩,rfl,R.dirty,fun n hn=>?_⟩,ex,hgr⟩
 ·have:=r.glob.1
  rw[ex.blk g (by omega),ex.sh g (by omega)]; exact r.glob.2 g hg
 ·rw[roH_get]at hm hn ⊢
  rw[roH_get]
  by_cases h1:m=H.next<;>by_cases h2:n=H.next
  ·exact .inl (h1.trans h2.symm)
  ·rw[if_neg h2]at hn
   rw[if_pos h1,if_neg h2]
   subst h1
   rw[Ren.at_blk,ex.blk n (r.lt hn)]at he
   exact .inr ⟨roObj_fz,hal n hn he.symm⟩
  ·rw[if_neg h1]at hm
   rw[if_neg h1,if_pos h2]
   subst h2
   rw[Ren.at_blk,ex.blk m (r.lt hm)]at he
   exact .inr ⟨hal m hm he,roObj_fz⟩
  ·rw[if_neg h1]at hm
   rw[if_neg h2]at hn
   rw[if_neg h1,if_neg h2]
   rw[ex.blk m (r.lt hm),ex.blk n (r.lt hn)]at he
   exact r.inj m n hm hn he
 ·rw[roH_get]at hn
  by_cases h:n=H.next
  ·rw[if_pos h]at hn
   cases hn
   subst h
   refine⟨zC7 _,?_⟩
   simp only[sco,roObj,RV.n_ofList,RV.get_ofList]
   intro i hi
   exact scb_mono (Nat.le_succ _) _ (scbL_iff.1 hs _ (by simp[List.getD,hi]))
  ·rw[if_neg h]at hn
   have:=r.dom n o hn
   exact⟨Nat.lt_succ_of_lt this.1,this.2.mono (Nat.le_succ _)⟩
 ·rw[roH_get]at hn
  by_cases h:n=H.next
  ·rw[if_pos h]at hn
   cases hn
   subst h
   refine⟨_,by rw[Ren.at_blk]; exact hb,?_⟩
   simp only[Fits,roObj]
   refine⟨c,fz,rfl,fun i hi=>?_,fun h=>(by cases h),fun _ h=>(by cases h)⟩
   simp only[RV.n_ofList]at hi
   rw[RV.get_ofList,Ren.at_sh,val_ext ex _ (scbL_iff.1 hs _ (by simp[List.getD,hi])),Nat.add_comm]
   exact hc i hi
  ·rw[if_neg h]at hn
   obtain⟨o',h1,h2⟩:=r.obj n o hn
   have hd:=r.dom n o hn
   exact⟨o',by rw[ex.blk n hd.1]; exact h1,h2.ext hd.1 hd.2 ex⟩
 ·rw[roH_get]at hn ⊢
  by_cases h:n=H.next
  ·rw[if_pos h]; exact .inl roObj_fz
  ·rw[if_neg h]at hn ⊢
   exact R.al n hn
theorem Ro.skipE (R:Ro P ρ H w) {ρ':Ren} (ex:Ext H.next ρ ρ'):Ro P ρ' ⟨H.root,H.next+1,H.next+1,H.dirty⟩ w∧Gro H ⟨H.root,H.next+1,H.next+1,H.dirty⟩:=by
 have r:=R.rel
 have hg:∀ n,(⟨H.root,H.next+1,H.next+1,H.dirty⟩:AHeap).get n=H.get n:=fun n=>rfl
 refine⟨⟨⟨zA4 _,⟨Nat.le_succ_of_le r.glob.1,fun g hg=>?_⟩,fun m n hm hn he=>?_,fun n o hn=>?_,fun n o hn=>?_⟩,rfl,R.dirty,fun n hn=>R.al n hn⟩,Nat.le_succ _,fun n _=>rfl⟩
 ·have:=r.glob.1
  rw[ex.blk g (by omega),ex.sh g (by omega)]; exact r.glob.2 g hg
 ·rw[hg]at hm hn
  rw[ex.blk m (r.lt hm),ex.blk n (r.lt hn)]at he
  exact r.inj m n hm hn he
 ·have:=r.dom n o hn
  exact⟨Nat.lt_succ_of_lt this.1,this.2.mono (Nat.le_succ _)⟩
 ·obtain⟨o',h1,h2⟩:=r.obj n o hn
  have hd:=r.dom n o hn
  exact⟨o',by rw[ex.blk n hd.1]; exact h1,h2.ext hd.1 hd.2 ex⟩
theorem Ro.skip (R:Ro P ρ H w) (b off:Nat):Ro P (ρ.at H.next b off 0) ⟨H.root,H.next+1,H.next+1,H.dirty⟩ w∧Ext H.next ρ (ρ.at H.next b off 0)∧Gro H ⟨H.root,H.next+1,H.next+1,H.dirty⟩ :=
 ⟨(R.skipE (Ren.at_ext ρ H.next b off 0)).1,Ren.at_ext ρ H.next b off 0,(R.skipE (Ren.at_ext ρ H.next b off 0)).2⟩
def Ren.atJ (ρ:Ren) (n b s j:Nat):Ren:=⟨fun m=>if m=n then b else ρ.blk m,fun m=>if m=n then s else ρ.sh m,fun m=>if m=n then 0 else ρ.ex m,fun m=>if m=n then .int .i64 j else ρ.op m,fun m=>by
 by_cases h:m=n
 ·simp only[h,if_true]; rfl
 ·simp only[h,if_false]; exact ρ.op1 m⟩
theorem Ren.atJ_ext (ρ:Ren) (n b s j:Nat):Ext n ρ (ρ.atJ n b s j) :=
 ⟨fun m h=>if_neg (Nat.ne_of_lt h),fun m h=>if_neg (Nat.ne_of_lt h),fun m h=>if_neg (Nat.ne_of_lt h),fun m h=>if_neg (Nat.ne_of_lt h)⟩
theorem val_slJ {N b off j:Nat}:(ρ.atJ N b off j).val (.slice (some ⟨N,0,some 1⟩) 0 0)=.slice (some ⟨b,off,some j⟩) 0 0:=by
 simp[Ren.val,Ren.atJ,Ren.offS,Ren.spS,Ren.capS,spO]
def SlAt (H:AHeap) (sz:Nat) (u:Value) (vs:List Value) (len:Nat):Prop :=
 vs.length=len*sz∧∃ a cap,u=.slice a len cap∧(len=0∨∃ n e,a=some ⟨n,0,some 0⟩∧n<H.next∧rk H n=some ⟨e,true,vs⟩∧len≤cap)
theorem SlAt.gro {H1:AHeap} {sz:Nat} {u:Value} {vs:List Value} {len:Nat} (h:SlAt H sz u vs len) (g:Gro H H1):SlAt H1 sz u vs len:=by
 obtain⟨h1,a,cap,h2,h3⟩:=h
 refine⟨h1,a,cap,h2,h3.imp id ?_⟩
 rintro⟨n,e,h4,h5,h6,h7⟩
 exact⟨n,e,h4,zD2 h5 g.next,(rk_get (g.get n h5)).trans h6,h7⟩
theorem val_sl {N b off len cap:Nat}:(ρ.at N b off 0).val (.slice (some ⟨N,0,some 0⟩) len cap)=.slice (some ⟨b,off,none⟩) len cap:=by
 simp[Ren.val,Ren.at_blk,Ren.at_sh]
theorem Ro.sl (R:Ro P ρ H w) {sz len cap b off:Nat} {sp:Option Nat} (hspot:sp=none∨len=0∧cap=0) {vs:List Value} (hlen:vs.length=len*sz)
  (hcell:len=0∨∃ c e fz,w.heap[b]?=some (.cells c e fz)∧∀ i,i<vs.length→c[off+i]?=some (ρ.val (vs.getD i undef))) (hs:scbL H.next vs=true) (h0:len=0∨∃ i,i<vs.length∧isU8 (ρ.val (vs.getD i undef))=false) (hlc:len≤cap) :
  ∃ ρ1 H1 u,Ro P ρ1 H1 w∧Ext H.next ρ ρ1∧Gro H H1∧ρ1.val u=.slice (some ⟨b,off,sp⟩) len cap∧scb H1.next u=true∧SlAt H1 sz u vs len:=by
 by_cases hz:len=0
 ·cases sp with
  |none =>
   obtain⟨k1,k2,k3⟩:=R.skip b off
   exact⟨_,_,.slice (some ⟨H.next,0,some 0⟩) len cap,k1,k2,k3,val_sl,blt_of (zC7 _),hlen,_,_,rfl,.inl hz⟩
  |some j =>
   have hc:cap=0:=by
    rcases hspot with h|h
    ·cases h
    ·exact h.2
   subst hc hz
   obtain⟨k1,k3⟩:=R.skipE (ρ.atJ_ext H.next b off j)
   exact⟨_,_,.slice (some ⟨H.next,0,some 1⟩) 0 0,k1,ρ.atJ_ext H.next b off j,k3,val_slJ,blt_of (zC7 _),hlen,_,_,rfl,.inl rfl⟩
 ·obtain rfl:sp=none:=by
   rcases hspot with h|h
   ·exact h
   ·exact absurd h.1 hz
  obtain⟨c,e,fz,hb,hc⟩:=hcell.resolve_left hz
  obtain⟨k1,k2,k3⟩:=R.add hb hc hs (h0.resolve_left hz)
  exact⟨_,_,.slice (some ⟨H.next,0,some 0⟩) len cap,k1,k2,k3,val_sl,blt_of (zC7 _),hlen,_,_,rfl,.inr ⟨H.next,e,rfl,zC7 _,roH_rk,hlc⟩⟩
variable {K : Type} {enc : TypeId × Value → K} {spare : Nat → Bool} {held : Bool} {fuel : Nat}
theorem sl_spot {t e:TypeId} {sz len cap:Nat} {a:Addr} {x:DataW K × List MemPlace} (hsp:∀ b,spare b=true) (ht:P.underlying t=some (.slice e)) (hsz:szOf P e=some (sz+1)) (h:DataW.trod enc P w 0 spare held fuel t [.slice (some a) len cap]=some x):a.spot=none∨len=0∧cap=0:=by
 have none_at:∀ y,(w.cells? 0 (a.add 0) (sz+1)).bind y=(none:Option (DataW K × List MemPlace))∨a.spot=none:=fun y=>by
  cases hs:a.spot with
  |none=>exact .inr rfl
  |some j =>
   left
   cases hc:w.cells? 0 (a.add 0) (sz+1) with
   |none=>rfl
   |some cs =>
    unfold World.cells? at hc
    rw[if_pos (zB2 _)]at hc
    obtain⟨v,hv⟩:=Go.Ax.mapM_each hc 0 (by simp)
    simp only[Addr.add,if_true,World.cell?,hs,Option.isSome_some]at hv
    split at hv<;>cases hv
 rcases DataW.trod_slice ht h with⟨h1,_⟩|⟨a',len',cap',elems,rest,n,_,h1,_,_,hle,_,hel,hcells,hrest,_⟩
 ·simp at h1
 ·simp only[List.cons.injEq,Value.slice.injEq,Option.some.injEq,and_true]at h1
  obtain⟨rfl,rfl,rfl⟩:=h1
  rw[cellsOf_szOf hsz]at hcells hrest
  rcases Nat.eq_zero_or_pos len with h0|h0
  ·subst h0
   rcases Nat.eq_zero_or_pos cap with hc|hc
   ·exact .inr ⟨rfl,hc⟩
   ·obtain⟨hl,hr⟩:=hrest (hsp _)
    have:=hr 0 (by omega)
    rw[zB6,zE8]at this
    rcases none_at (DataW.trod enc P w 0 spare held n e) with h2|h2
    ·rw[h2,zA6 (by omega)]at this
     cases this
    ·exact .inl h2
  ·have:=hcells 0 h0
   rw[zE8]at this
   rcases none_at (DataW.trod enc P w 0 spare held n e) with h2|h2
   ·rw[h2,zA6 (by omega)]at this
    cases this
   ·exact .inl h2
theorem sl_cells {t e:TypeId} {sz b off len cap:Nat} {x:DataW K × List MemPlace} (ht:P.underlying t=some (.slice e)) (hsz:szOf P e=some sz) (h:DataW.trod enc P w 0 spare held fuel t [.slice (some ⟨b,off,none⟩) len cap]=some x) :
  ∃ (vs:List Value) (n:Nat),vs.length=len*sz∧(len*sz=0∨∃ c e' fz,w.heap[b]?=some (.cells c e' fz)∧∀ i,i<vs.length→c[off+i]?=some (vs.getD i undef)) ∧
   ∀ i,i<len→∃ y,DataW.trod enc P w 0 spare held n e ((vs.drop (i*sz)).take sz)=some y:=by
 rcases DataW.trod_slice ht h with⟨h1,_⟩|⟨a,len',cap',elems,rest,n,_,h1,_,_,_,_,hel,hcells,_,_⟩
 ·simp at h1
 ·simp only[List.cons.injEq,Value.slice.injEq,Option.some.injEq,and_true]at h1
  obtain⟨rfl,rfl,rfl⟩:=h1
  rw[cellsOf_szOf hsz]at hcells
  have each:∀ i,i<len→∃ cs y,w.cells? 0 ((⟨b,off,none⟩:Addr).add (i*sz)) sz=some cs∧DataW.trod enc P w 0 spare held n e cs=some y:=fun i hi=>by
   have:=hcells i hi
   rw[zA6 (by omega)]at this
   obtain⟨cs,h1,h2⟩:=zA2.1 this
   exact⟨cs,_,h1,h2⟩
  by_cases h0:len*sz=0
  ·refine⟨[],n,by simp[h0],.inl h0,fun i hi=>?_⟩
   obtain⟨cs,y,h1,h2⟩:=each i hi
   have hsz0:sz=0:=by
    rcases Nat.eq_zero_or_pos sz with h|h
    ·exact h
    ·have:=Nat.mul_pos (show 0<len by omega) h; omega
   subst hsz0
   unfold World.cells? at h1
   rw[if_pos (zB2 _)]at h1
   simp at h1
   subst h1
   exact⟨y,by simpa using h2⟩
  ·have hp:0<sz:=Nat.pos_of_ne_zero fun h=>h0 (by rw[h,Nat.mul_zero])
   have cell:∀ i,i<len*sz→∃ v,w.cell? ⟨b,off+i,none⟩=some v:=fun i hi=>by
    have hq:i / sz<len:=(Nat.div_lt_iff_lt_mul hp).2 hi
    obtain⟨cs,y,hcs,_⟩:=each _ hq
    unfold World.cells? at hcs
    rw[if_pos (zB2 _)]at hcs
    obtain⟨v,hv⟩:=mapM_each hcs (i % sz) (by simpa using Nat.mod_lt _ hp)
    rw[addr_add,addr_add]at hv
    have:off+i / sz*sz+i % sz=off+i:=by rw[Nat.add_assoc,Nat.mul_comm,Nat.div_add_mod]
    rw[this]at hv
    exact⟨v,hv⟩
   obtain⟨v0,hv0⟩:=cell 0 (by omega)
   unfold World.cell? at hv0
   cases hb:w.heap[b]? with
   |none=>simp[hb]at hv0
   |some o =>
    cases o with
    |cells c e' fz =>
     have cell':∀ i,i<len*sz→∃ v,c[off+i]?=some v:=fun i hi=>by
      obtain⟨v,hv⟩:=cell i hi
      simp only[World.cell?,hb]at hv
      exact⟨v,by simpa using hv⟩
     obtain⟨vs,hvs⟩:∃ vs:List Value,vs=(List.range (len*sz)).map fun i=>(c[off+i]?).getD undef:=⟨_,rfl⟩
     have hvl:vs.length=len*sz:=by simp[hvs]
     have hvg:∀ i,i<vs.length→c[off+i]?=some (vs.getD i undef):=fun i hi=>by
      rw[hvl]at hi
      obtain⟨v,hv⟩:=cell' i hi
      simp[hvs,hi,hv,zC9]
     refine⟨vs,n,hvl,.inr ⟨c,e',fz,rfl,hvg⟩,fun i hi=>?_⟩
     obtain⟨cs,y,hcs,hy⟩:=each i hi
     have hcs':(vs.drop (i*sz)).take sz=cs:=by
      unfold World.cells? at hcs
      rw[if_pos (zB2 _)]at hcs
      have hin:i*sz+sz≤len*sz:=by rw[←Nat.succ_mul]; exact Nat.mul_le_mul_right _ hi
      have hr:=mapM_range_of (f:=fun j=>w.cell? (((⟨b,off,none⟩:Addr).add (i*sz)).add j)) (g:=fun j=>vs.getD (i*sz+j) undef) sz (fun j hj=>by
       have h3:=hvg (i*sz+j) (by rw[hvl]; omega)
       rw[addr_add,addr_add,Nat.add_assoc]
       simp[World.cell?,hb,h3])
      rw[hr]at hcs
      cases hcs
      apply List.ext_getElem?
      intro j
      by_cases hj:j<sz
      ·rw[List.getElem?_take,if_pos hj,List.getElem?_drop,List.getElem?_map,List.getElem?_range hj,zA6 (by rw[hvl]; omega)]
       simp only[zA7,zC9]
       rw[zA6 (by rw[hvl]; omega)]
       rfl
      ·rw[zE0 (by simp; omega),zE0 (by simp; omega)]
     rw[hcs']
     exact⟨y,hy⟩
    |_=>simp[hb]at hv0
end
open Go.ChangeShapes
section
variable {P : Program} {ρ : Ren} {H : AHeap} {w : World}
variable {K : Type} {enc : TypeId × Value → K} {spare : Nat → Bool} {held : Bool}
theorem fit1_af {t:TypeId} {v:Value} (h:fit1 P t v=true):af v=true:=by
 unfold fit1 at h
 split at h<;>first|rfl|cases h
theorem fits_afm:∀ {ts:List TypeId} {cs:List Value},fits P ts cs=true→∀ v∈cs,af v=true
 |[],[],_,v,hv=>by cases hv
 |t::ts,c::cs,h,v,hv=>by
  simp only[fits,zA5]at h
  rcases zB1.1 hv with rfl|hv
  ·exact fit1_af h.1
  ·exact fits_afm h.2 v hv
 |[],_::_,h,_,_=>by cases h
 |_::_,[],h,_,_=>by cases h
def nu8 (P:Program) (t:TypeId):Bool :=
 match P.underlying t with
 |some (.int .u8)=>false
 |_=>true
theorem nu8_val {t:TypeId} {v:Value} (hn:nu8 P t=true) (h:fit1 P t v=true):isU8 v=false:=by
 unfold isU8
 split
 ·unfold fit1 at h
  unfold nu8 at hn
  split at h
  ·rename_i hv; cases hv
  ·rename_i k k' n hu hv
   cases hv
   have:k=.u8:=by simpa using h
   subst this
   rw[hu]at hn
   cases hn
  ·rename_i hv; cases hv
  ·cases h
 ·rfl
def chunkd (P:Program) (ts:List TypeId) (vs:List Value) (len:Nat):Prop:=∀ i,i<len→fits P ts ((vs.drop (i*ts.length)).take ts.length)=true
theorem chunkd_af {ts:List TypeId} {vs:List Value} {len:Nat} (hl:vs.length=len*ts.length) (h:chunkd P ts vs len):∀ v∈vs,af v=true:=by
 intro v hv
 rw[cut_flat len vs hl]at hv
 obtain⟨l,hl2,hv⟩:=List.mem_flatten.1 hv
 obtain⟨i,hi,rfl⟩:=List.mem_map.1 hl2
 exact fits_afm (h i (zF3.1 hi)) v hv
theorem map_val_af {vs:List Value} (h:∀ v∈vs,af v=true) (i:Nat) (hi:i<vs.length):ρ.val (vs.getD i undef)=vs.getD i undef :=
 val_af ρ _ (h _ (by simp[List.getD,hi]))
theorem Ro.slF (R:Ro P ρ H w) {t e t0:TypeId} {ts:List TypeId} {D fuel:Nat} {v:Value} {x:DataW K × List MemPlace} (ht:P.underlying t=some (.slice e)) (hsz:szOf P e=some (t0::ts).length) (hfl:flat P D e=some (t0::ts)) (hu:nu8 P t0=true)
  (hall:∀ b,spare b=true) (h:DataW.trod enc P w 0 spare held fuel t [v]=some x) :
  ∃ ρ1 H1 u vs len,Ro P ρ1 H1 w∧Ext H.next ρ ρ1∧Gro H H1∧ρ1.val u=v∧scb H1.next u=true∧SlAt H1 (t0::ts).length u vs len∧chunkd P (t0::ts) vs len:=by
 rcases DataW.trod_slice ht h with⟨h1,_⟩|⟨a,len,cap,_,_,_,_,h1,_,_,hlc,_⟩
 ·simp only[List.cons.injEq,and_true]at h1
  subst h1
  exact⟨ρ,H,.slice none 0 0,[],0,R,Ext.refl _ _,Gro.refl,by rw[Ren.val],rfl,⟨by simp,none,0,rfl,.inl rfl⟩,fun i hi=>absurd hi (by omega)⟩
 ·simp only[List.cons.injEq,and_true]at h1
  subst h1
  have hs0:=sl_spot hall ht hsz h
  obtain⟨b,off,s⟩:=a
  simp only at hs0
  rcases hs0 with hs0|⟨rfl,rfl⟩
  case inr =>
   obtain⟨ρ1,H1,u,q1,q2,q3,q4,q5,q6⟩:=R.sl (sz:=(t0::ts).length) (len:=0) (cap:=0) (b:=b) (off:=off) (sp:=s) (vs:=[]) (.inr ⟨rfl,rfl⟩) (by simp) (.inl rfl) rfl (.inl rfl) (zA4 _)
   exact⟨ρ1,H1,u,[],0,q1,q2,q3,q4,q5,q6,fun i hi=>absurd hi (by omega)⟩
  subst hs0
  obtain⟨vs,n,k1,k2,k3⟩:=sl_cells ht hsz h
  have hch:chunkd P (t0::ts) vs len:=fun i hi=>by
   obtain⟨y,hy⟩:=k3 i hi
   exact trod_fits n D e (t0::ts) _ y hfl hsz hy
  have haf:=chunkd_af k1 hch
  have hsc:scbL H.next vs=true:=scbL_of_af _ (afL_of haf)
  have h0:len=0∨∃ i,i<vs.length∧isU8 (ρ.val (vs.getD i undef))=false:=by
   rcases Nat.eq_zero_or_pos len with h|h
   ·exact .inl h
   ·right
    have hp:0<vs.length:=by rw[k1]; exact Nat.mul_pos h (by simp)
    refine⟨0,hp,?_⟩
    rw[map_val_af haf 0 hp]
    have hc:=hch 0 h
    rw[zE8,zD6]at hc
    cases vs with
    |nil=>simp at hp
    |cons y ys =>
     simp only[zB4,List.take_succ_cons,fits,zA5]at hc
     exact nu8_val hu hc.1
  have hcell:len=0∨∃ c e fz,w.heap[b]?=some (.cells c e fz)∧∀ i,i<vs.length→c[off+i]?=some (ρ.val (vs.getD i undef)):=by
   rcases k2 with h|⟨c,e',fz,h1,h2⟩
   ·left
    exact (Nat.mul_eq_zero.1 h).resolve_right (by simp)
   ·exact .inr ⟨c,e',fz,h1,fun i hi=>by rw[map_val_af haf i hi]; exact h2 i hi⟩
  obtain⟨ρ1,H1,u,q1,q2,q3,q4,q5,q6⟩:=R.sl (cap:=cap) (.inl rfl) k1 hcell hsc h0 hlc
  exact⟨ρ1,H1,u,vs,len,q1,q2,q3,q4,q5,q6,hch⟩
theorem Ro.rows {t e t0:TypeId} {ts:List TypeId} {D:Nat} (ht:P.underlying t=some (.slice e)) (hsz:szOf P e=some (t0::ts).length) (hfl:flat P D e=some (t0::ts)) (hu:nu8 P t0=true) (hall:∀ b,spare b=true) :
  ∀ (hs:List Value) {ρ:Ren} {H:AHeap},(∀ v∈hs,∃ (n:Nat) (x:DataW K × List MemPlace),DataW.trod enc P w 0 spare held n t [v]=some x)→Ro P ρ H w →
   ∃ ρ1 H1 us,Ro P ρ1 H1 w∧Ext H.next ρ ρ1∧Gro H H1∧us.map ρ1.val=hs∧scbL H1.next us=true∧∀ u∈us,∃ vs len,SlAt H1 (t0::ts).length u vs len∧chunkd P (t0::ts) vs len
 |[],ρ,H,_,R=>⟨ρ,H,[],R,Ext.refl _ _,Gro.refl,rfl,rfl,fun u hu=>by cases hu⟩
 |v::hs,ρ,H,hh,R=>by
  obtain⟨n,x,hx⟩:=hh v (by simp)
  obtain⟨ρ1,H1,u,vs,len,a1,a2,a3,a4,a5,a6,a7⟩:=R.slF ht hsz hfl hu hall hx
  obtain⟨ρ2,H2,us,b1,b2,b3,b4,b5,b6⟩:=Ro.rows ht hsz hfl hu hall hs (fun v hv=>hh v (by simp[hv])) a1
  refine⟨ρ2,H2,u::us,b1,a2.trans b2 a3.next,a3.trans b3,?_,?_,?_⟩
  ·rw[zB9,b4,val_ext b2 u a5,a4]
  ·simp only[scbL,scb_mono b3.next u a5,b5,zD5]
  ·intro y hy
   rcases zB1.1 hy with rfl|hy
   ·exact⟨vs,len,a6.gro b3,a7⟩
   ·exact b6 y hy
theorem trod_nu8 {t e:TypeId} {n:Nat} {v:Value} {x:DataW K × List MemPlace} (ht:P.underlying t=some (.slice e)) (h:DataW.trod enc P w 0 spare held n t [v]=some x):isU8 v=false:=by
 rcases DataW.trod_slice ht h with⟨h1,_⟩|⟨a,len,cap,_,_,_,_,h1,_⟩
 ·simp only[List.cons.injEq,and_true]at h1
  subst h1
  rfl
 ·simp only[List.cons.injEq,and_true]at h1
  subst h1
  rfl
theorem Ro.grid (R:Ro P ρ H w) {t2 t e t0:TypeId} {ts:List TypeId} {D fuel:Nat} {v:Value} {x:DataW K × List MemPlace} (ht2:P.underlying t2=some (.slice t)) (hs1:szOf P t=some 1) (ht:P.underlying t=some (.slice e)) (hsz:szOf P e=some (t0::ts).length) (hfl:flat P D e=some (t0::ts)) (hu:nu8 P t0=true)
  (hall:∀ b,spare b=true) (h:DataW.trod enc P w 0 spare held fuel t2 [v]=some x) :
  ∃ ρ1 H1 u us,Ro P ρ1 H1 w∧Ext H.next ρ ρ1∧Gro H H1∧ρ1.val u=v∧scb H1.next u=true∧SlAt H1 1 u us us.length∧∀ y∈us,∃ vs len,SlAt H1 (t0::ts).length y vs len∧chunkd P (t0::ts) vs len:=by
 rcases DataW.trod_slice ht2 h with⟨h1,_⟩|⟨a,len,cap,_,_,_,_,h1,_,_,hlc,_⟩
 ·simp only[List.cons.injEq,and_true]at h1
  subst h1
  exact⟨ρ,H,.slice none 0 0,[],R,Ext.refl _ _,Gro.refl,by rw[Ren.val],rfl,⟨by simp,none,0,rfl,.inl rfl⟩,fun y hy=>by cases hy⟩
 ·simp only[List.cons.injEq,and_true]at h1
  subst h1
  have hs0:=sl_spot hall ht2 hs1 h
  obtain⟨b,off,s⟩:=a
  simp only at hs0
  rcases hs0 with hs0|⟨rfl,rfl⟩
  case inr =>
   obtain⟨ρ1,H1,u,q1,q2,q3,q4,q5,q6⟩:=R.sl (sz:=1) (len:=0) (cap:=0) (b:=b) (off:=off) (sp:=s) (vs:=[]) (.inr ⟨rfl,rfl⟩) (by simp) (.inl rfl) rfl (.inl rfl) (zA4 _)
   exact⟨ρ1,H1,u,[],q1,q2,q3,q4,q5,q6,fun y hy=>by cases hy⟩
  subst hs0
  obtain⟨vs,n,k1,k2,k3⟩:=sl_cells ht2 hs1 h
  rw[Nat.mul_one]at k1
  have hmem:∀ v∈vs,∃ (n:Nat) (x:DataW K × List MemPlace),DataW.trod enc P w 0 spare held n t [v]=some x:=fun v hv=>by
   obtain⟨i,hi,rfl⟩:=List.getElem_of_mem hv
   obtain⟨y,hy⟩:=k3 i (by omega)
   have e1:(vs.drop (i*1)).take 1=[vs[i]]:=by
    rw[Nat.mul_one,zG2 hi]
    rfl
   rw[e1]at hy
   exact⟨n,y,hy⟩
  obtain⟨ρ1,H1,us,b1,b2,b3,b4,b5,b6⟩:=Ro.rows ht hsz hfl hu hall vs hmem R
  have hlen:us.length=vs.length:=by rw[←b4,List.length_map]
  have hval:∀ i,i<us.length→ρ1.val (us.getD i undef)=vs.getD i undef:=fun i hi=>by
   rw[←b4]
   simp[List.getD,hi]
  have hcell:len=0∨∃ c e fz,w.heap[b]?=some (.cells c e fz)∧∀ i,i<us.length→c[off+i]?=some (ρ1.val (us.getD i undef)):=by
   rcases k2 with h|⟨c,e',fz,h1,h2⟩
   ·exact .inl (by omega)
   ·exact .inr ⟨c,e',fz,h1,fun i hi=>by rw[hval i hi]; exact h2 i (by omega)⟩
  have h0:len=0∨∃ i,i<us.length∧isU8 (ρ1.val (us.getD i undef))=false:=by
   rcases Nat.eq_zero_or_pos len with h|h
   ·exact .inl h
   ·refine .inr ⟨0,by omega,?_⟩
    rw[hval 0 (by omega)]
    have hv:vs.getD 0 undef∈vs:=by
     have h0:0<vs.length:=by omega
     simp[List.getD,h0]
    obtain⟨n,y,hy⟩:=hmem _ hv
    exact trod_nu8 ht hy
  obtain⟨ρ2,H2,u,q1,q2,q3,q4,q5,q6⟩:=b1.sl (sp:=none) (.inl rfl) (sz:=1) (vs:=us) (len:=len) (cap:=cap) (b:=b) (off:=off) (by omega) hcell b5 h0 hlc
  refine⟨ρ2,H2,u,us,q1,b2.trans q2 b3.next,b3.trans q3,q4,q5,?_,fun y hy=>?_⟩
  ·rw[show us.length=len by omega]; exact q6
  ·obtain⟨vs',l',j1,j2⟩:=b6 y hy
   exact⟨vs',l',j1.gro q3,j2⟩
end
open Go.ChangeShapes
section
variable {P : Program} {ρ : Ren} {H : AHeap} {w : World}
variable {K : Type} {enc : TypeId × Value → K} {spare : Nat → Bool} {held : Bool}
def flds (P:Program) (t:TypeId):Option (List (TypeId × Nat)) :=
 match P.underlying t with
 |some (.struct fs)=>some (fs.toList.map fun f=>(f.type,f.offset))
 |_=>none
theorem trod_flds {t:TypeId} {l:List (TypeId × Nat)} {fuel base:Nat} {cs:List Value} {x:DataW K × List MemPlace} (h:flds P t=some l) (hx:DataW.trod enc P w base spare held fuel t cs=some x) :
  cs.length=P.cellsOf t∧∃ n:Nat,∀ (i:Nat) (ty:TypeId) (off:Nat),l[i]?=some (ty,off)→∃ y,DataW.trod enc P w base spare held n ty ((cs.drop off).take (P.cellsOf ty))=some y:=by
 unfold flds at h
 split at h
 ·rename_i fs hu
  simp only[Option.some.injEq]at h
  subst h
  obtain⟨xs,n,_,_,hl,hxs,hf⟩:=DataW.trod_struct hu hx
  refine⟨hl,n,fun i ty off hi=>?_⟩
  rw[List.getElem?_map,zB0]at hi
  obtain⟨f,hfi,he⟩:=hi
  simp only[Prod.mk.injEq]at he
  obtain⟨rfl,rfl⟩:=he
  have hfi':fs[i]?=some f:=by simpa using hfi
  have hlt:i<fs.size:=(Array.getElem?_eq_some_iff.1 hfi').1
  have:=hf i f hfi'
  rw[zA6 (by omega)]at this
  exact⟨_,this⟩
 ·cases h
theorem chunk_of {α:Type} {ts:List TypeId} {f:α→List Value} (hf:∀ cs,fits P ts cs=true→∃ a,cs=f a):∀ (len:Nat) (vs:List Value),vs.length=len*ts.length→chunkd P ts vs len→∃ l:List α,l.length=len∧vs=l.flatMap f
 |0,vs,hl,_=>⟨[],rfl,by simpa using hl⟩
 |len+1,vs,hl,h=>by
  have h0:=h 0 (by omega)
  rw[zE8,zD6]at h0
  obtain⟨a,ha⟩:=hf _ h0
  have hlen:ts.length≤vs.length:=by rw[hl,Nat.succ_mul]; omega
  obtain⟨l,h1,h2⟩:=chunk_of hf len (vs.drop ts.length) (by rw[zC5,hl,Nat.succ_mul]; omega) (fun i hi=>by
   have:=h (i+1) (by omega)
   rw[zG0]
   rw[Nat.succ_mul,Nat.add_comm]at this
   exact this)
  refine⟨a::l,by simp[h1],?_⟩
  rw[zF2,←h2,←ha,List.take_append_drop]
theorem Rel.rk_sc (r:Rel P ρ H w) {n:Nat} {b:Bl} (h:rk H n=some b):scbL H.next b.l=true:=by
 rw[rk_eq]at h
 unfold cellsR at h
 split at h
 ·rename_i a e q o v hg
  simp only[zA7,Option.some.injEq]at h
  subst h
  have:=(r.dom _ _ hg).2
  simp only[sco]at this
  exact gets_sc this (by omega)
 ·cases h
end
end Go.Ax
namespace Go.Proofs.YtaojjfebkldmnaaDoor
open Go.ChangeShapes Go.WideShapes Go.ChangeAt Go.RowKit Go.Ax
theorem trodAll_carry {K:Type} {enc:TypeId × Value→K} {P:Program} (hl:laidOutB P=true) {W W':World} (hb:Below W.heap.size W W'):∀ {ts:List TypeId} {vs:List Value} {ds:List (DataW K)} {ps:List MemPlace},
  (ts.all fun t=>P.readableRec t&&Nat.blt t P.types.size)=true→DataW.TrodAll enc P W 0 (fun _=>true) true ts vs ds ps→(∀ x∈ps,x.block<W.heap.size)→DataW.TrodAll enc P W' 0 (fun b=>decide (b<W.heap.size)) true ts vs ds ps
 |[],[],[],ps,_,h,_=>h
 |t::ts,v::vs,d::ds,ps,ht,h,hp=>by
  obtain⟨p,q,h1,h2,rfl⟩:=h
  simp only[List.all_cons,zA5]at ht
  exact⟨p,q,Below.trod hl ht.1.1 (blt_lt ht.1.2) h1 hb (fun x hx=>hp x (by simp[hx])),trodAll_carry hl hb (by simpa using ht.2) h2 (fun x hx=>hp x (by simp[hx])),rfl⟩
theorem Tryd.own:ownKnob Tryd.prog.godebug=none:=by kernel_rfl
theorem Tryd.laidOut:laidOutB Tryd.prog=true:=by kernel_rfl
theorem la_u3:Tryd.prog.underlying 3=some (.int .i64):=by kernel_rfl
theorem la_u4:Tryd.prog.underlying 4=some .bool:=by kernel_rfl
theorem la_f24:flds Tryd.prog 24=some [(22,0),(3,1),(3,2)]:=by kernel_rfl
theorem ce_of:∀ cs,fits Tryd.prog [3,3,3,4,4,4] cs=true→∃ c:Ce,cs=c.cells:=fun cs h=>by
 have hl:=fits_length h
 match cs,hl,h with
 |[a,b,c,d,e,f],_,h =>
  simp only[fits,zA5,Bool.and_true]at h
  obtain⟨h1,h2,h3,h4,h5,h6⟩:=h
  unfold fit1 at h1 h2 h3 h4 h5 h6
  rw[la_u3]at h1 h2 h3
  rw[la_u4]at h4 h5 h6
  cases a<;>simp at h1
  cases b<;>simp at h2
  cases c<;>simp at h3
  cases d<;>simp at h4
  cases e<;>simp at h5
  cases f<;>simp at h6
  subst h1 h2 h3
  exact⟨⟨_,_,_,_,_,_⟩,rfl⟩
theorem SlAt.slE {H:AHeap} {u:Value} {vs:List Value} {len sz:Nat} (h:SlAt H sz u vs len) (h0:len≠0):SlE H sz u vs len:=by
 obtain⟨h1,a,cap,rfl,h3⟩:=h
 obtain⟨n,e,rfl,h4,h5,h6⟩:=h3.resolve_left h0
 refine⟨n,0,some 0,cap-len,e,true,vs,by rw[show len+(cap-len)=cap by omega],.inl rfl,h5,h4,by omega,?_⟩
 rw[zD6,zF1 (by omega)]
theorem slAt_row {H:AHeap} {u:Value} {vs:List Value} {len:Nat} (h:SlAt H 6 u vs len) (hc:chunkd Tryd.prog [3,3,3,4,4,4] vs len):∃ row,RowS H u row:=by
 obtain⟨l,hl,rfl⟩:=chunk_of ce_of len vs h.1 hc
 by_cases h0:l=[]
 ·obtain⟨_,a,cap,rfl,_⟩:=h
  subst h0
  subst hl
  exact⟨[],.inl ⟨rfl,a,cap,rfl⟩⟩
 ·have hne:len≠0:=fun h=>h0 (zD0 (by omega))
  have:=SlAt.slE h hne
  rw[←hl]at this
  exact⟨l,.inr ⟨h0,this⟩⟩
theorem rows_of {H:AHeap}:∀ {us:List Value},(∀ y∈us,∃ row,RowS H y row)→∃ g:List (List Ce),g.length=us.length∧∀ (k:Nat) row,g[k]?=some row→∃ rv,us[k]?=some rv∧RowS H rv row
 |[],_=>⟨[],rfl,fun k row h=>by simp at h⟩
 |u::us,h=>by
  obtain⟨row,hr⟩:=h u (by simp)
  obtain⟨g,h1,h2⟩:=rows_of (us:=us) (fun y hy=>h y (by simp[hy]))
  refine⟨row::g,by simp[h1],fun k r hk=>?_⟩
  cases k with
  |zero =>
   simp only[zF0,Option.some.injEq]at hk
   subst hk
   exact⟨u,rfl,hr⟩
  |succ k=>exact h2 k r (by simpa using hk)
theorem SlE.gro {H G:AHeap} {u:Value} {L:List Value} {sz cnt:Nat} (h:SlE H sz u L cnt) (y:Gro H G):SlE G sz u L cnt:=h.of y.next fun n hn=>y.get n (h.ne n hn).2
theorem RowS.gro {H G:AHeap} {v:Value} {l:List Ce} (h:RowS H v l) (y:Gro H G):RowS G v l:=h.imp id fun⟨h0,h1⟩=>⟨h0,h1.gro y⟩
theorem GridS.gro {H G:AHeap} {v:Value} {g:List (List Ce)} (h:GridS H v g) (y:Gro H G):GridS G v g:=h.imp id fun⟨h0,rvs,h1,h2,h3⟩=>⟨h0,rvs,h1,h2.gro y,fun k row hk=>let ⟨rv,h4,h5⟩:=h3 k row hk; ⟨rv,h4,h5.gro y⟩⟩
section
variable {K : Type} {enc : TypeId × Value → K} {held : Bool} {W : World} {ρ : Ren} {H : AHeap}
theorem ro_screen (R:Ro Tryd.prog ρ H W) {v:Value} {d:DataW K} {p:List MemPlace} (h:DataW.Trod enc Tryd.prog W 0 (fun _=>true) held 24 v d p) :
  ∃ ρ1 H1 u g r c,Ro Tryd.prog ρ1 H1 W∧Ext H.next ρ ρ1∧Gro H H1∧ρ1.val (.agg ⟨[u,.int .i64 r,.int .i64 c]⟩)=v∧scb H1.next u=true∧GridS H1 u g∧GridSc H1 u:=by
 obtain⟨fuel,hf⟩:=h
 obtain⟨hl,n,hs⟩:=trod_flds la_f24 hf
 rw[cellsOf_szOf (n:=3) (by kernel_rfl)]at hl
 have c22:Tryd.prog.cellsOf 22=1:=cellsOf_szOf (by kernel_rfl)
 have c3:Tryd.prog.cellsOf 3=1:=cellsOf_szOf (by kernel_rfl)
 cases v with
 |agg cs =>
  obtain⟨cs⟩:=cs
  simp only[Value.cells]at hl hs
  match cs,hl,hs with
  |[a,b,c],_,hs =>
   obtain⟨y0,h0⟩:=hs 0 22 0 rfl
   obtain⟨y1,h1⟩:=hs 1 3 1 rfl
   obtain⟨y2,h2⟩:=hs 2 3 2 rfl
   rw[c22]at h0
   rw[c3]at h1 h2
   obtain⟨r,e1,_⟩:=DataW.trod_int la_u3 h1
   obtain⟨q,e2,_⟩:=DataW.trod_int la_u3 h2
   simp only[List.drop_succ_cons,zD6,List.take_succ_cons,List.take_zero,List.cons.injEq,and_true]at e1 e2 h0
   subst e1 e2
   obtain⟨ρ1,H1,u,us,k1,k2,k3,k4,k5,k6,k7⟩:=R.grid (t2:=22) (t:=56) (e:=55) (t0:=3) (ts:=[3,3,4,4,4]) (D:=1000) (by kernel_rfl) (by kernel_rfl) (by kernel_rfl) (by kernel_rfl) (by kernel_rfl) (by kernel_rfl) (fun _=>rfl) h0
   obtain⟨g,hg1,hg2⟩:=rows_of (H:=H1) (us:=us) (fun y hy=>by
    obtain⟨vs,len,j1,j2⟩:=k7 y hy
    exact slAt_row j1 j2)
   refine⟨ρ1,H1,u,g,r,q,k1,k2,k3,?_,k5,?_,fun n off s len c b _ hb=>k1.rel.rk_sc hb⟩
   ·simp[Ren.val,Ren.valA,Ren.valL,k4]
   ·obtain⟨j1,a,cap,rfl,j3⟩:=k6
    by_cases h0:g=[]
    ·subst h0
     have:us.length=0:=by simpa using hg1.symm
     rw[this]
     exact .inl ⟨rfl,a,cap,rfl⟩
    ·have hne:us.length≠0:=fun h=>h0 (zD0 (by omega))
     have hE:=SlAt.slE (H:=H1) (sz:=1) (u:=.slice a us.length cap) ⟨j1,a,cap,rfl,j3⟩ hne
     rw[←hg1]at hE
     exact .inr ⟨h0,us,hg1.symm,by rw[hg1]at hE ⊢; exact hE,hg2⟩
 |_=>simp[Value.cells]at hl
end
open Go.ChangeShapes Go.WideShapes Go.ChangeAt Go.RowKit Go.Ax
def Laid (w:World) (e1 e2:TypeId):Prop:=(∃ c,w.heap[0]?=some (.cells c e1 (0,0))∧c.toList=dc fstD)∧∃ c,w.heap[1]?=some (.cells c e2 (0,0))∧c.toList=dc accD
theorem tabs_laid {w:World} (h:laidMet Tryd.prog Rows.diffAnewRow.laid w):∃ e1 e2,Laid w e1 e2:=by
 obtain⟨c1,t1,a1,b1⟩:=laid_tab h (name := "unicode/utf8.first") (d:=fstD) (.tail _ (.head _)) (g:=0) (t:=142) (e:=5) (ts:=[5]) (D:=1000) (n:=256) (by kernel_rfl) (by kernel_rfl) (by kernel_rfl) (by kernel_rfl) (by kernel_rfl) (by kernel_rfl) (by kernel_rfl) (blt_lt (by kernel_rfl))
 obtain⟨c2,t2,a2,b2⟩:=laid_tab h (name := "unicode/utf8.acceptRanges") (d:=accD) (.head _) (g:=1) (t:=145) (e:=144) (ts:=[5,5]) (D:=1000) (n:=16) (by kernel_rfl) (by kernel_rfl) (by kernel_rfl) (by kernel_rfl) (by kernel_rfl) (by kernel_rfl) (by kernel_rfl) (blt_lt (by kernel_rfl))
 exact⟨t1,t2,⟨c1,a1,b1⟩,c2,a2,b2⟩
theorem bk_put_eq {H:AHeap} {g:Nat} {e:TypeId} {vs:List Value}:bk (H.put g (some (tabO e vs))) g=some ⟨e,false,vs⟩:=by
 refine blk_bk ⟨RV.ofList vs,?_,RV.n_ofList _,fun i hi=>?_⟩
 ·simp only[cellsAt,AHeap.get_put,if_true,tabO]
 ·rw[RV.get_ofList]
theorem Laid.ro {W:World} {e1 e2:TypeId} (hl:Laid W e1 e2):∃ ρ H,Ro Tryd.prog ρ H W∧Tab H∧1<H.next:=by
 have h2:2≤Tryd.prog.globals.size:=zA9 (by kernel_rfl)
 obtain⟨N,hN⟩:∃ N,Tryd.prog.globals.size=N:=⟨_,rfl⟩
 rw[hN]at h2
 have r:Rel Tryd.prog (enR N 0 0) (AHeap.none (N+1)) W:=⟨zA4 _,⟨by rw[hN]; exact Nat.le_succ N,fun g hg=>by
   have:g≠N:=by omega
   exact⟨if_neg this,if_neg this⟩⟩,fun m _ hm=>absurd (none_get _ m) hm,fun n o ho=>(by rw[none_get]at ho; cases ho),fun n o ho=>(by rw[none_get]at ho; cases ho)⟩
 obtain⟨⟨c1,a1,b1⟩,c2,a2,b2⟩:=hl
 have r1:=rel_tab r (g:=0) (by omega) rfl (fun n h1 h2=>absurd (none_get _ n) h1) a1 b1 (by kernel_rfl)
 have r2:=rel_tab r1 (g:=1) (by omega) rfl (fun n h1 h3=>by
  rw[AHeap.get_put]at h1
  by_cases e:n=0
  ·subst e
   rw[show (enR N 0 0).blk 0=0 from if_neg (by omega)]at h3
   exact absurd h3 (by decide)
  ·rw[if_neg e]at h1; exact absurd (none_get _ n) h1) a2 b2 (by kernel_rfl)
 refine⟨_,_,⟨r2,rfl,rfl,fun n hn=>.inr ?_⟩,⟨e1,e2,?_,bk_put_eq⟩,by show 1<N+1; omega⟩
 ·rw[AHeap.get_put,AHeap.get_put]at hn
  by_cases h1:n=1
  ·subst h1
   refine⟨by omega,c2,e2,a2,fun v hv=>?_⟩
   rw[b2]at hv
   exact zC0.1 (show (dc accD).all isU8=true by kernel_rfl) v hv
  ·rw[if_neg h1]at hn
   by_cases h0:n=0
   ·subst h0
    refine⟨by omega,c1,e1,a1,fun v hv=>?_⟩
    rw[b1]at hv
    exact zC0.1 (show (dc fstD).all isU8=true by kernel_rfl) v hv
   ·rw[if_neg h0]at hn
    exact absurd (none_get _ n) hn
 ·rw[bk_get (G:=(AHeap.none (N+1)).put 0 (some (tabO e1 (dc fstD)))) (by rw[AHeap.get_put,if_neg (by decide)])]
  exact bk_put_eq
end Go.Proofs.YtaojjfebkldmnaaDoor
