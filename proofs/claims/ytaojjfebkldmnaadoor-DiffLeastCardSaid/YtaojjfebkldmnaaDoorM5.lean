/- Parts of the proof, one behind the other. -/
import Derived.Test.YtaojjfebkldmnaaDoorM3
import Derived.Test.YtaojjfebkldmnaaDoorM4
import Derived.Shelf.Bits.Mul64
set_option linter.all false
set_option maxRecDepth 10000
set_option maxHeartbeats 16000000
open And renaming intro → zA0
open Option renaming bind_eq_bind → zA1, bind_eq_some_iff → zA2, bind_some → zA3, map_some → zA7, map_eq_some_iff → zB1
open Bool renaming and_eq_true → zA4, false_eq_true → zC2, not_true → zC8, and_self → zD1, not_false → zD6
open Nat renaming le_refl → zA5, le_of_ble_eq_true → zA9, zero_le → zB0, zero_add → zC1, lt_or_ge → zC4, lt_succ_self → zC6, add_zero → zC7, lt_of_lt_of_le → zC9, le_of_eq → zD2, le_trans → zD9, zero_mul → zE1, sub_self → zE9, eq_of_beq_eq_true → zF4
open List renaming getElem?_eq_getElem → zA6, mem_singleton → zA8, mem_cons → zB2, mem_cons_of_mem → zB3, mem_append → zB4, length_cons → zB5, length_append → zB6, map_cons → zB7, nil_append → zB8, mem_of_getElem? → zB9, all_eq_true → zC0, length_nil → zC3, eq_nil_of_length_eq_zero → zC5, append_nil → zD0, drop_zero → zD3, mem_append_left → zD4, mem_append_right → zD5, mem_cons_self → zD7, length_drop → zD8, getElem?_eq_none → zE0, getElem?_eq_some_iff → zE2, mem_flatMap → zE3, mem_of_mem_take → zE4, mem_of_mem_drop → zE5, take_of_length_le → zE6, drop_eq_nil_of_le → zE7, getD_eq_getElem?_getD → zE8, drop_eq_getElem_cons → zF0, mem_range → zF1, map_nil → zF2, cons_append → zF3, getElem?_cons_zero → zF5, length_take → zF6, take_length → zF7, flatMap_cons → zF8, getElem?_cons_succ → zF9

namespace Go.Ax
theorem w_condK {P:Program} {ro:Option Nat} {b:Bool} {x y:Code} {Q:Exit→AAct→AHeap→Prop} {a:AAct} {H:AHeap}:wpA P ro (.cond (.const (.bool b)) x y) Q a H=condC P ro x y Q a H (.bool b):=by
 simp only[wpA,condC,aeval,af,if_true]
end Go.Ax
namespace Go.Proofs.YtaojjfebkldmnaaDoor
open Go.Ax
set_option maxRecDepth 100000
def rhoM:Go.Shelf.Ren:=⟨fun n=>if n=264 then 104 else 0,fun n=>if n=46 then 118 else if n=53 then 135 else n,fun n=>n⟩
theorem laysM:Go.Proofs.Lays.n264 Tryd.prog rhoM:=by
 constructor
 all_goals first
  |exact mixed
  |kernel_rfl
  |(intro w; kernel_rfl)
theorem mul64_c (H:AHeap) (w:Nat) (hw:w<1000000):Pure 104 [.int .u64 1,.int .u64 (w:Int)] H (.tuple #[.int .u64 0,.int .u64 (w:Int)]):=by
 intro ρ W r hsc F n R hF hR
 have hc:=Go.Proofs.Any.bits_Mul64 laysM 1 w (by omega) (by omega) W
 have h0:1*w / 18446744073709551616=0:=by omega
 have h1:1*w % 18446744073709551616=w:=by omega
 rw[h0,h1]at hc
 have e1:[Value.int .u64 1,Value.int .u64 (w:Int)].map ρ.val=[Value.int .u64 1,Value.int .u64 (w:Int)]:=map_af ρ _ (fun x hx=>by simp only[zB2,List.not_mem_nil,or_false]at hx; rcases hx with rfl|rfl<;>rfl)
 rw[e1]
 refine (hF.calls hc).mono ?_
 rintro e w' ⟨rfl,rfl⟩
 have:=hR ρ w' (St.refl r) rfl
 rwa [val_af ρ _ rfl]at this
theorem mul_c (H:AHeap) (w:Nat) (hw:w<1000000):Pure 87 [.int .u64 1,.int .u64 (w:Int)] H (.tuple #[.int .u64 0,.int .u64 (w:Int)]):=by
 refine callS_fn mixed Tryd.func87 rfl Tryd.ntmps87 (zA9 rfl) fun wf hsc=>?_
 simp (maxDischargeDepth:=6) only[w_condK,ruW,putL,Nat.reduceLeDiff,xF,ruU,entryE,Nat.reduceLT,Nat.reduceAdd,Nat.reduceMul,Nat.reduceEqDiff]
 refine (mul64_c (ext H []) w hw).to ?_
 simp (maxDischargeDepth:=6) only[Tryd.results87,ruW,putL,Nat.reduceLeDiff,xF,ruU,entryE,Nat.reduceLT,Nat.reduceAdd,Nat.reduceMul,Nat.reduceEqDiff]
 exact Fin.pureE rfl rfl
end Go.Proofs.YtaojjfebkldmnaaDoor
