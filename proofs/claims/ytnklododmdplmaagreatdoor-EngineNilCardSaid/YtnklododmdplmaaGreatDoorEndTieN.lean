/- The program's tie and the rows' ties, of closed facts shown apart. No conditions. -/
import Derived.Test.YtnklododmdplmaaGreatDoorEndTieNB
import Derived.Test.YtnklododmdplmaaGreatDoorEndTieNC
import Derived.Test.YtnklododmdplmaaGreatDoorEndTieNE
import Derived.LaidByTextLater
import Derived.SevenTiedAt
namespace Go.Proofs.YtnklododmdplmaaGreatDoor
open Go
theorem pin_laid_unicode_utf8_first : Tryz.pinned.checked.prog.pinnedFits "unicode/utf8.first" = true := by kernel_rfl
theorem noOwnUnsafe : Tryz.pinned.checked.prog.headLifts.contains "ownunsafe" = false := by kernel_rfl
theorem fits2 : Tryz.pinned.checked.prog.listedFits [("strings.asciiSpace", Rows.laid_strings_asciiSpace), ("unicode.White_Space", Rows.laid_unicode_White_Space), ("unicode/utf8.first", Rows.laid_unicode_utf8_first), ("unicode/utf8.acceptRanges", Rows.laid_unicode_utf8_acceptRanges), ("jacquard/plain.eight", Rows.laid_jacquard_plain_eight), ("jacquard/ints.widths", Rows.laid_jacquard_ints_widths), ("math/bits.deBruijn64tab", Rows.laid_math_bits_deBruijn64tab), ("jacquard/plain.thans", Rows.laid_jacquard_plain_thans), ("jacquard/plain.fthans", Rows.laid_jacquard_plain_fthans), ("jacquard/plain.fones", Rows.laid_jacquard_plain_fones), ("jacquard/plain.ftwos", Rows.laid_jacquard_plain_ftwos), ("jacquard/plain.counts", Rows.laid_jacquard_plain_counts), ("jacquard/plain.sums", Rows.laid_jacquard_plain_sums), ("jacquard/valid.errForm", Rows.laid_jacquard_valid_errForm), ("jacquard/valid.errValid", Rows.laid_jacquard_valid_errValid), ("errors.errorType", Rows.laid_errors_errorType)] = true := by
  unfold Program.listedFits
  rw [noOwnUnsafe]
  kernel_rfl
theorem tie2 : Tryz.prog.laidByTextLater [("strings.asciiSpace", Rows.laid_strings_asciiSpace), ("unicode.White_Space", Rows.laid_unicode_White_Space), ("unicode/utf8.acceptRanges", Rows.laid_unicode_utf8_acceptRanges), ("jacquard/plain.eight", Rows.laid_jacquard_plain_eight), ("jacquard/ints.widths", Rows.laid_jacquard_ints_widths), ("math/bits.deBruijn64tab", Rows.laid_math_bits_deBruijn64tab), ("jacquard/plain.thans", Rows.laid_jacquard_plain_thans), ("jacquard/plain.fthans", Rows.laid_jacquard_plain_fthans), ("jacquard/plain.fones", Rows.laid_jacquard_plain_fones), ("jacquard/plain.ftwos", Rows.laid_jacquard_plain_ftwos), ("jacquard/plain.counts", Rows.laid_jacquard_plain_counts), ("jacquard/plain.sums", Rows.laid_jacquard_plain_sums), ("jacquard/valid.errForm", Rows.laid_jacquard_valid_errForm), ("jacquard/valid.errValid", Rows.laid_jacquard_valid_errValid), ("errors.errorType", Rows.laid_errors_errorType)] [.data, .listed, .data, .data, .data, .data, .data, .data, .data, .data, .data, .data, .sentinel, .sentinel, .handle] true :=
  Program.laidByTextLater_by_run_h (laid := tieLaid) (kinds := tieKinds) 400 8 tie_hw tie_hw2 tie_root tie_hk tie_hg tie_hn tie_hd tie_h1 tie_h2 tie_h3
theorem engineNil_row_tie : Rows.engineNilRow.laidByTextAt .later Tryz.pinned [.data, .listed, .pinned, .data, .data, .data, .data, .data, .data, .data, .data, .data, .data, .sentinel, .sentinel, .handle] true :=
  OpenClaim.laidByTextAt_pinned rfl rfl tie2 rfl rfl rfl rfl (fun y hy _e => by
    simp only [Rows.engineNilRow, List.zip_cons_cons, List.zip_nil_right, List.mem_cons, List.mem_nil_iff, or_false] at hy
    rcases hy with rfl | rfl | rfl | rfl | rfl | rfl | rfl | rfl | rfl | rfl | rfl | rfl | rfl | rfl | rfl | rfl
    · cases _e
    · cases _e
    · exact ⟨pin_laid_unicode_utf8_first, by kernel_rfl⟩
    · cases _e
    · cases _e
    · cases _e
    · cases _e
    · cases _e
    · cases _e
    · cases _e
    · cases _e
    · cases _e
    · cases _e
    · cases _e
    · cases _e
    · cases _e) fits2
end Go.Proofs.YtnklododmdplmaaGreatDoor
