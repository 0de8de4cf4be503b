/- Closed facts of the program's tie. No conditions. -/
import Derived.Test.YtnklododmdplmaaGreatDoorRows
import Derived.LaidByTextLater
import Derived.SevenTiedAt
namespace Go.Proofs.YtnklododmdplmaaGreatDoor
open Go
def tieLaid : List (String × DataW Unit) := [("strings.asciiSpace", Rows.laid_strings_asciiSpace), ("unicode.White_Space", Rows.laid_unicode_White_Space), ("unicode/utf8.acceptRanges", Rows.laid_unicode_utf8_acceptRanges), ("jacquard/plain.eight", Rows.laid_jacquard_plain_eight), ("jacquard/ints.widths", Rows.laid_jacquard_ints_widths), ("math/bits.deBruijn64tab", Rows.laid_math_bits_deBruijn64tab), ("jacquard/plain.thans", Rows.laid_jacquard_plain_thans), ("jacquard/plain.fthans", Rows.laid_jacquard_plain_fthans), ("jacquard/plain.fones", Rows.laid_jacquard_plain_fones), ("jacquard/plain.ftwos", Rows.laid_jacquard_plain_ftwos), ("jacquard/plain.counts", Rows.laid_jacquard_plain_counts), ("jacquard/plain.sums", Rows.laid_jacquard_plain_sums), ("jacquard/valid.errForm", Rows.laid_jacquard_valid_errForm), ("jacquard/valid.errValid", Rows.laid_jacquard_valid_errValid), ("errors.errorType", Rows.laid_errors_errorType)]
def tieKinds : List LaidKind := [.data, .listed, .data, .data, .data, .data, .data, .data, .data, .data, .data, .data, .sentinel, .sentinel, .handle]
theorem tie_hw : Tryz.prog.worded (varsWordLater true) = true := by kernel_rfl
theorem tie_hw2 : Tryz.prog.worded (varsWordLater !true) = false := by kernel_rfl
theorem tie_root : Tryz.prog.worded rootWordLater = true := by kernel_rfl
theorem tie_hk : tieLaid.map (fun x => Tryz.prog.kindOfLater x.1) = tieKinds.map some := by kernel_rfl
theorem tie_fn : Tryz.prog.funcNamed "gosem.cut.vars" = some 677 := by kernel_rfl
theorem tie_hg : (Tryz.prog.funcNamed "gosem.cut.vars").isSome = true := by rw [tie_fn]; rfl
theorem tie_vars : varsId Tryz.prog = 677 := by unfold varsId; rw [tie_fn]; rfl
theorem tie_hn : varsNamedLaterB Tryz.prog (varsId Tryz.prog) tieLaid = true := by rw [tie_vars]; kernel_rfl
def tiePlain : List (String × DataW Unit) := tieLaid.filter fun x => x.2.handleName?.isNone
end Go.Proofs.YtnklododmdplmaaGreatDoor
