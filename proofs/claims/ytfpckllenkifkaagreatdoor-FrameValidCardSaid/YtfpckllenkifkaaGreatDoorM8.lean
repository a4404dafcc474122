/- Parts of the proof, one behind the other. -/
import Derived.Test.YtfpckllenkifkaaGreatDoorM7
import Derived.Test.YtfpckllenkifkaaGreatDoorM4
set_option linter.all false
set_option maxRecDepth 10000
set_option maxHeartbeats 16000000
open And renaming intro -> zA0
open Option renaming bind_eq_bind -> zA1, bind_eq_some_iff -> zA2, bind_some -> zA3, map_some -> zA5, map_eq_some_iff -> zA6
open Bool renaming and_eq_true -> zA4, false_eq_true -> zB7, and_self -> zD6
open List renaming getElem?_eq_getElem -> zA7, length_cons -> zB0, mem_cons -> zB1, map_cons -> zB3, mem_singleton -> zB4, mem_cons_of_mem -> zB5, mem_cons_self -> zB9, mem_of_getElem? -> zC2, all_eq_true -> zC4, getElem?_cons_zero -> zC5, getElem?_eq_none -> zC6, drop_zero -> zC7, length_append -> zC8, mem_append -> zC9, getElem?_cons_succ -> zD0, length_replicate -> zD2, eq_nil_of_length_eq_zero -> zD4, nil_append -> zD5, length_nil -> zD7, map_congr_left -> zD8, mem_map -> zE0, flatMap_cons -> zE1, append_nil -> zE2, length_take -> zE3, length_drop -> zE4
open Nat renaming le_refl -> zA8, zero_le -> zA9, le_of_ble_eq_true -> zB2, lt_or_ge -> zB6, le_trans -> zB8, zero_add -> zC0, lt_succ_self -> zC1, lt_of_lt_of_le -> zC3, min -> zD1, add_zero -> zD3, eq_of_beq_eq_true -> zD9

namespace Go.Proofs.YtfpckllenkifkaaGreatDoor
open Go.Ax
abbrev powD:DataW Unit:=Rows.laid_internal_strconv_uint64pow10
abbrev b32D:DataW Unit:=Rows.laid_math_bits_deBruijn32tab
abbrev b64D:DataW Unit:=Rows.laid_math_bits_deBruijn64tab
abbrev tabT (e1 e2 e3 e4 e5:TypeId):List (Nat × TypeId × List Value):=[(0,e1,dc fstD),(1,e2,dc accD),(3,e3,dc powD),(4,e4,dc b32D),(5,e5,dc b64D)]
abbrev kan8:AnsK:=(14,[],.bool true)::kan7
theorem kno8:Known Tryz.prog (lookK kan8):=known_cons mixed kno7 2000 rfl awakeK_true
abbrev kan9:AnsK:=(25,[.int .i64 28450],.int .i64 2)::kan8
theorem kno9:Known Tryz.prog (lookK kan9):=known_cons mixed kno8 1000 rfl (by kernel_rfl)
theorem knoR:Known Tryz.prog (repK (lookK kan9)):=known_rep kno9
theorem known_true (e1 e2 e3 e4 e5:TypeId):ansT Tryz.prog (repK (lookK kan9)) 3000 4 [] (.bool true) (tabT e1 e2 e3 e4 e5)=true:=by kernel_rfl
def Tab5 (H:AHeap):Prop:=∃ e1 e2 e3 e4 e5,bk H 0=some ⟨e1,false,dc fstD⟩/\bk H 1=some ⟨e2,false,dc accD⟩/\bk H 3=some ⟨e3,false,dc powD⟩/\bk H 4=some ⟨e4,false,dc b32D⟩/\bk H 5=some ⟨e5,false,dc b64D⟩
theorem known_c (H:AHeap) (t:Tab5 H):CallS Tryz.prog 4 [] H (.ok (.bool true)) H:=by
 obtain⟨e1,e2,e3,e4,e5,h1,h2,h3,h4,h5⟩:=t
 refine callS_tab mixed knoR rfl (known_true e1 e2 e3 e4 e5) fun x hx=>?_
 simp only[tabT,zB1,List.not_mem_nil,or_false]at hx
 rcases hx with rfl|rfl|rfl|rfl|rfl
 ·exact⟨show 0<Tryz.prog.globals.size by decide +kernel,by kernel_rfl,h1⟩
 ·exact⟨show 1<Tryz.prog.globals.size by decide +kernel,by kernel_rfl,h2⟩
 ·exact⟨show 3<Tryz.prog.globals.size by decide +kernel,by kernel_rfl,h3⟩
 ·exact⟨show 4<Tryz.prog.globals.size by decide +kernel,by kernel_rfl,h4⟩
 ·exact⟨show 5<Tryz.prog.globals.size by decide +kernel,by kernel_rfl,h5⟩
end Go.Proofs.YtfpckllenkifkaaGreatDoor
