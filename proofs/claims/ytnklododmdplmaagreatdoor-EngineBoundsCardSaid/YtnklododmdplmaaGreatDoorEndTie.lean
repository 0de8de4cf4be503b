/- The program's tie and the rows' ties, of closed facts shown apart. No conditions. -/
import Derived.Test.YtnklododmdplmaaGreatDoorEndTieB
import Derived.Test.YtnklododmdplmaaGreatDoorEndTieC
import Derived.Test.YtnklododmdplmaaGreatDoorEndTieE
import Derived.LaidByTextLater
import Derived.SevenTiedAt
namespace Go.Proofs.YtnklododmdplmaaGreatDoor
open Go
theorem pin_laid_unicode_utf8_first : Tryz.pinned.checked.prog.pinnedFits "unicode/utf8.first" = true := by kernel_rfl
theorem noOwnUnsafe : Tryz.pinned.checked.prog.headLifts.contains "ownunsafe" = false := by kernel_rfl
theorem fits1 : Tryz.pinned.checked.prog.listedFits [("unicode/utf8.first", Rows.laid_unicode_utf8_first), ("unicode/utf8.acceptRanges", Rows.laid_unicode_utf8_acceptRanges), ("strings.asciiSpace", Rows.laid_strings_asciiSpace), ("unicode.White_Space", Rows.laid_unicode_White_Space), ("jacquard/valid.errForm", Rows.laid_jacquard_valid_errForm), ("jacquard/valid.errValid", Rows.laid_jacquard_valid_errValid), ("jacquard/plain.eight", Rows.laid_jacquard_plain_eight), ("jacquard/ints.widths", Rows.laid_jacquard_ints_widths), ("math/bits.deBruijn64tab", Rows.laid_math_bits_deBruijn64tab), ("jacquard/plain.thans", Rows.laid_jacquard_plain_thans), ("jacquard/plain.fthans", Rows.laid_jacquard_plain_fthans), ("jacquard/plain.fones", Rows.laid_jacquard_plain_fones), ("jacquard/plain.ftwos", Rows.laid_jacquard_plain_ftwos), ("jacquard/plain.counts", Rows.laid_jacquard_plain_counts), ("jacquard/plain.sums", Rows.laid_jacquard_plain_sums), ("errors.errorType", Rows.laid_errors_errorType)] = true := by
  unfold Program.listedFits
  rw [noOwnUnsafe]
  kernel_rfl
theorem tie : Tryz.prog.laidByTextLater [("unicode/utf8.acceptRanges", Rows.laid_unicode_utf8_acceptRanges), ("strings.asciiSpace", Rows.laid_strings_asciiSpace), ("unicode.White_Space", Rows.laid_unicode_White_Space), ("jacquard/valid.errForm", Rows.laid_jacquard_valid_errForm), ("jacquard/valid.errValid", Rows.laid_jacquard_valid_errValid), ("jacquard/plain.eight", Rows.laid_jacquard_plain_eight), ("jacquard/ints.widths", Rows.laid_jacquard_ints_widths), ("math/bits.deBruijn64tab", Rows.laid_math_bits_deBruijn64tab), ("jacquard/plain.thans", Rows.laid_jacquard_plain_thans), ("jacquard/plain.fthans", Rows.laid_jacquard_plain_fthans), ("jacquard/plain.fones", Rows.laid_jacquard_plain_fones), ("jacquard/plain.ftwos", Rows.laid_jacquard_plain_ftwos), ("jacquard/plain.counts", Rows.laid_jacquard_plain_counts), ("jacquard/plain.sums", Rows.laid_jacquard_plain_sums), ("errors.errorType", Rows.laid_errors_errorType)] [.data, .data, .listed, .sentinel, .sentinel, .data, .data, .data, .data, .data, .data, .data, .data, .data, .handle] true :=
  Program.laidByTextLater_by_run_h (laid := tieLaid) (kinds := tieKinds) 400 8 tie_hw tie_hw2 tie_root tie_hk tie_hg tie_hn tie_hd tie_h1 tie_h2 tie_h3
theorem engineBounds_row_tie : Rows.engineBoundsRow.laidByTextAt .later Tryz.pinned [.pinned, .data, .data, .listed, .sentinel, .sentinel, .data, .data, .data, .data, .data, .data, .data, .data, .data, .handle] true :=
  OpenClaim.laidByTextAt_pinned rfl rfl tie rfl rfl rfl rfl (fun y hy _e => by
    simp only [Rows.engineBoundsRow, List.zip_cons_cons, List.zip_nil_right, List.mem_cons, List.mem_nil_iff, or_false] at hy
    rcases hy with rfl | rfl | rfl | rfl | rfl | rfl | rfl | rfl | rfl | rfl | rfl | rfl | rfl | rfl | rfl | rfl
    · exact ⟨pin_laid_unicode_utf8_first, by kernel_rfl⟩
    · cases _e
    · cases _e
    · cases _e
    · cases _e
    · cases _e
    · cases _e
    · cases _e
    · cases _e
    · cases _e
    · cases _e
    · cases _e
    · cases _e
    · cases _e
    · cases _e
    · cases _e) fits1
end Go.Proofs.YtnklododmdplmaaGreatDoor
