/- Closed facts of the tie between the listed variables and the program text, part 0. No condition. -/
import Derived.Test.YtahbgdeahpogaaaGreatDoorRows
import Derived.LaidByTextLater
import Derived.SevenTiedAt
namespace Go.Proofs.YtahbgdeahpogaaaGreatDoor
open Go
def tieList : List (String × DataW Unit) := [("unicode/utf8.acceptRanges", Rows.laid_unicode_utf8_acceptRanges), ("strconv.ErrSyntax", Rows.laid_strconv_ErrSyntax), ("strconv.ErrRange", Rows.laid_strconv_ErrRange), ("internal/strconv.uint64pow10", Rows.laid_internal_strconv_uint64pow10), ("math/bits.deBruijn32tab", Rows.laid_math_bits_deBruijn32tab), ("math/bits.deBruijn64tab", Rows.laid_math_bits_deBruijn64tab), ("errors.errorType", Rows.laid_errors_errorType)]
def tieKinds : List LaidKind := [.data, .sentinel, .sentinel, .data, .data, .data, .handle]
theorem t0 : Tryz.prog.worded (varsWordLater true) = true := by kernel_rfl
theorem t1 : Tryz.prog.worded (varsWordLater !true) = false := by kernel_rfl
theorem t2 : Tryz.prog.worded rootWordLater = true := by kernel_rfl
theorem t3 : tieList.map (fun x => Tryz.prog.kindOfLater x.1) = tieKinds.map some := by kernel_rfl
theorem t4 : (Tryz.prog.funcNamed "gosem.cut.vars").isSome = true := by kernel_rfl
theorem t5 : varsNamedLaterB Tryz.prog (varsId Tryz.prog) tieList = true := by kernel_rfl
end Go.Proofs.YtahbgdeahpogaaaGreatDoor
