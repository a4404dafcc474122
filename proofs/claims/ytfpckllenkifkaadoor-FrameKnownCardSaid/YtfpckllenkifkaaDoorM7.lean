/- Parts of the proof, one behind the other. -/
import Derived.Test.YtfpckllenkifkaaDoorM6
set_option linter.all false

/- The chapter's examples in FrameKnown: true, from a heap that holds the listed tables. -/
namespace Go.Proofs.YtfpckllenkifkaaDoor
open Go.Ax

abbrev fstD : DataW Unit := Rows.laid_unicode_utf8_first
abbrev accD : DataW Unit := Rows.laid_unicode_utf8_acceptRanges
abbrev powD : DataW Unit := Rows.laid_internal_strconv_uint64pow10
abbrev b32D : DataW Unit := Rows.laid_math_bits_deBruijn32tab
abbrev b64D : DataW Unit := Rows.laid_math_bits_deBruijn64tab
abbrev tabT (e1 e2 e3 e4 e5 : TypeId) : List (Nat × TypeId × List Value) := [(0, e1, dc fstD), (1, e2, dc accD), (3, e3, dc powD), (4, e4, dc b32D), (5, e5, dc b64D)]

abbrev kan8 : AnsK := (7, [], .bool true) :: kan7
theorem kno8 : Known Tryd.prog (lookK kan8) := known_cons mixed kno7 2000 rfl awakeK_true
abbrev kan9 : AnsK := (58, [.int .i64 28450], .int .i64 2) :: kan8
theorem kno9 : Known Tryd.prog (lookK kan9) := known_cons mixed kno8 1000 rfl (by kernel_rfl)
theorem knoR : Known Tryd.prog (repK (lookK kan9)) := known_rep kno9
theorem known_true (e1 e2 e3 e4 e5 : TypeId) : ansT Tryd.prog (repK (lookK kan9)) 3000 5 [] (.bool true) (tabT e1 e2 e3 e4 e5) = true := by kernel_rfl

end Go.Proofs.YtfpckllenkifkaaDoor
