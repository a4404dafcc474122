/- Parts of the proof, one behind the other. -/
import Derived.Test.YtpohjcacnkhnkaaGreatDoorM3
import Derived.Test.YtpohjcacnkhnkaaGreatDoorRows
set_option linter.all false
set_option maxRecDepth 10000
set_option maxHeartbeats 16000000
open Option renaming some->ap,none->bi
open Bool renaming true->bv,false->gc
open Decidable renaming decide->ge
open Go renaming Value->gt,TypeId->ii,Program->io,World->ip,Operand->i4
open Option.some renaming injEq->i5
open Prod.mk renaming injEq->i6
open Go.Value renaming int->i7,pointer->i9,slice->jp,bool->kw
open Go.IntKind renaming i64->i8
open And renaming intro -> zA0
open Option renaming bind_eq_bind -> zA1, bind_eq_some_iff -> zA2, bind_some -> zA4, map_some -> zB1, map_eq_some_iff -> zB5
open List renaming length_cons -> zA3, mem_singleton -> zA6, mem_cons -> zA9, length_nil -> zB0, length_append -> zB2, getElem?_eq_getElem -> zB3, mem_append -> zB4, mem_map -> zB6, nodup_cons -> zB8, map_cons -> zB9, mem_of_getElem? -> zC0, length_drop -> zC1, take_of_length_le -> zC3, mem_cons_of_mem -> zC4, getElem?_eq_none -> zC5, append_assoc -> zC9, nil_append -> zD0, drop_zero -> zD2, all_eq_true -> zD3, append_nil -> zD4, nodup_append -> zD5, mem_cons_self -> zD7, getElem?_eq_some_iff -> zE0, getElem?_map -> zE1, getD_eq_getElem?_getD -> zE3, map_nil -> zE6, eq_nil_of_length_eq_zero -> zE7, drop_eq_nil_of_le -> zE8, length_map -> zE9, length_take -> zF1, not_mem_nil -> zF2, getElem?_cons_zero -> zF3, getElem?_set -> zF4, mem_range -> zF5, cons_append -> zG1, length_replicate -> zG2, ext_getElem? -> zG4, getElem?_append_right -> zG5, getElem?_cons_succ -> zG6
open Nat renaming le_refl -> zA5, le_of_ble_eq_true -> zA8, zero_le -> zB7, lt_or_ge -> zC2, zero_add -> zC6, le_trans -> zC7, lt_of_lt_of_le -> zD1, add_zero -> zD6, lt_succ_self -> zD9, ble_eq -> zE2, mul_one -> zE5, min -> zF0, add_sub_cancel_left -> zF9, sub_self -> zG0
open Bool renaming and_eq_true -> zA7, false_eq_true -> zC8, and_self -> zD8, not_true -> zE4, or_false -> zF6, false_and -> zF7, or_true -> zF8, or_eq_true -> zG3
namespace Go.Proofs.YtpohjcacnkhnkaaGreatDoor.Tq
open Go.Ax
abbrev vI:DataW Unit:=Rows.laid_unicode_utf8_first
abbrev r5:DataW Unit:=Rows.laid_unicode_utf8_acceptRanges
abbrev RG(a b:ii):List (Nat × ii × List gt):=[(0,a,dc vI),(1,b,dc r5)]
def Kh(a b:ii):OU Tryz.prog (MS []) 1000 6 [] (kw bv) (RG a b)=true:=by kernel_rfl
end Go.Proofs.YtpohjcacnkhnkaaGreatDoor.Tq
