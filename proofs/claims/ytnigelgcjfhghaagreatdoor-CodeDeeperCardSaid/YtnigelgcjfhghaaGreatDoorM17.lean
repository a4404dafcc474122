/- Parts of the proof, one behind the other. -/
import Derived.Test.YtnigelgcjfhghaaGreatDoorM15
import Derived.Test.YtnigelgcjfhghaaGreatDoorM16
set_option linter.all false
set_option maxRecDepth 10000
set_option maxHeartbeats 16000000
open And renaming intro -> zA0
open Option renaming bind_eq_bind -> zA1, bind_eq_some_iff -> zA2, bind_some -> zA3, map_some -> zA5, map_eq_some_iff -> zB0
open Bool renaming and_eq_true -> zA4, false_eq_true -> zB8, and_self -> zC3
open List renaming getElem?_eq_getElem -> zA6, mem_singleton -> zA7, length_cons -> zA8, mem_cons -> zA9, getD_eq_getElem?_getD -> zB1, map_cons -> zB4, mem_cons_of_mem -> zB6, mem_cons_self -> zB7, mem_append -> zC0, all_eq_true -> zC2, mem_map -> zC4, length_append -> zC8, length_singleton -> zC9, nil_append -> zD0, length_nil -> zD1, length_map -> zD5, not_mem_nil -> zD6, getElem?_cons_succ -> zD7, flatMap_cons -> zD8, getElem?_eq_none -> zE1, take_of_length_le -> zE2, append_nil -> zE3, getElem?_cons_zero -> zE5, eq_nil_of_length_eq_zero -> zE6, length_take -> zE7
open Nat renaming le_refl -> zB2, le_of_ble_eq_true -> zB3, zero_le -> zB5, le_trans -> zB9, lt_succ_self -> zC1, zero_add -> zC5, lt_or_ge -> zC6, mul_one -> zC7, eq_of_beq_eq_true -> zD2, add_zero -> zD3, lt_of_lt_of_le -> zD4, ble_eq -> zD9
open Int renaming cast_ofNat_Int -> zE0, toNat_natCast -> zE4

namespace Go.Proofs.YtnigelgcjfhghaaGreatDoor
open Go.Ax
theorem known_onceX {K:KX} {l:List Ent} (hK:KnownX Tryz.prog (lookX [] K [])) (hl:KnownX Tryz.prog (lookX [] K l)) (fuel:Nat) {e:Ent} (h:∀ ee,entRunX Tryz.prog (lookX [] K []) fuel [] ee e=true):KnownX Tryz.prog (lookX [] K (e::l)):=by
 intro g args u H H1 hu
 unfold lookX at hu
 split at hu
 ·rename_i hc
  refine known_heapX mixed hK fuel h g args u H H1 ?_
  unfold lookX
  rw[if_pos hc]
  exact hu
 ·exact hl _ _ _ _ _ hu
theorem khk0:KnownX Tryz.prog (lookX [] midK khl0):=known_baseX known_mid
theorem khk1:KnownX Tryz.prog (lookX [] midK khl1):=known_onceX khk0 khk0 3000 kht1
theorem khk2:KnownX Tryz.prog (lookX [] midK khl2):=known_onceX khk0 khk1 3000 kht2
def topK:KX:=lookX [] midK khl2
theorem known_top:KnownX Tryz.prog topK:=khk2
end Go.Proofs.YtnigelgcjfhghaaGreatDoor
