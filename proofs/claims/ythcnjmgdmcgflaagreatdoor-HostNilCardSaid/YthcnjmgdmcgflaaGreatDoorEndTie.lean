/- The program's tie and the rows' ties, of closed facts shown apart. No conditions. -/
import Derived.Test.YthcnjmgdmcgflaaGreatDoorEndTieB
import Derived.Test.YthcnjmgdmcgflaaGreatDoorEndTieC
import Derived.Test.YthcnjmgdmcgflaaGreatDoorEndTieE
import Derived.LaidByTextLater
import Derived.SevenTiedAt
namespace Go.Proofs.YthcnjmgdmcgflaaGreatDoor
open Go
theorem pin_laid_unicode_utf8_first : Tryz.pinned.checked.prog.pinnedFits "unicode/utf8.first" = true := by kernel_rfl
theorem noOwnUnsafe : Tryz.pinned.checked.prog.headLifts.contains "ownunsafe" = false := by kernel_rfl
theorem fits1 : Tryz.pinned.checked.prog.listedFits [("strings.asciiSpace", Rows.laid_strings_asciiSpace), ("unicode.White_Space", Rows.laid_unicode_White_Space), ("unicode/utf8.first", Rows.laid_unicode_utf8_first), ("unicode/utf8.acceptRanges", Rows.laid_unicode_utf8_acceptRanges), ("jacquard/plain.eight", Rows.laid_jacquard_plain_eight), ("jacquard/ints.widths", Rows.laid_jacquard_ints_widths), ("math/bits.deBruijn64tab", Rows.laid_math_bits_deBruijn64tab), ("jacquard/plain.thans", Rows.laid_jacquard_plain_thans), ("jacquard/plain.fthans", Rows.laid_jacquard_plain_fthans), ("jacquard/plain.fones", Rows.laid_jacquard_plain_fones), ("jacquard/plain.ftwos", Rows.laid_jacquard_plain_ftwos), ("jacquard/plain.counts", Rows.laid_jacquard_plain_counts), ("jacquard/plain.sums", Rows.laid_jacquard_plain_sums), ("jacquard/valid.errForm", Rows.laid_jacquard_valid_errForm), ("jacquard/valid.errValid", Rows.laid_jacquard_valid_errValid)] = true := by
  unfold Program.listedFits
  rw [noOwnUnsafe]
  kernel_rfl
theorem tie : Tryz.prog.laidByTextLater [("strings.asciiSpace", Rows.laid_strings_asciiSpace), ("unicode.White_Space", Rows.laid_unicode_White_Space), ("unicode/utf8.acceptRanges", Rows.laid_unicode_utf8_acceptRanges), ("jacquard/plain.eight", Rows.laid_jacquard_plain_eight), ("jacquard/ints.widths", Rows.laid_jacquard_ints_widths), ("math/bits.deBruijn64tab", Rows.laid_math_bits_deBruijn64tab), ("jacquard/plain.thans", Rows.laid_jacquard_plain_thans), ("jacquard/plain.fthans", Rows.laid_jacquard_plain_fthans), ("jacquard/plain.fones", Rows.laid_jacquard_plain_fones), ("jacquard/plain.ftwos", Rows.laid_jacquard_plain_ftwos), ("jacquard/plain.counts", Rows.laid_jacquard_plain_counts), ("jacquard/plain.sums", Rows.laid_jacquard_plain_sums), ("jacquard/valid.errForm", Rows.laid_jacquard_valid_errForm), ("jacquard/valid.errValid", Rows.laid_jacquard_valid_errValid)] [.data, .listed, .data, .data, .data, .data, .data, .data, .data, .data, .data, .data, .sentinel, .sentinel] true :=
  Program.laidByTextLater_by_run (laid := tieLaid) (kinds := tieKinds) 400 8 tie_hw tie_hw2 tie_root tie_hk tie_hg tie_hn tie_hd tie_h1 tie_h2 tie_hp
theorem hostNil_row_tie : Rows.hostNilRow.laidByTextAt .later Tryz.pinned [.data, .listed, .pinned, .data, .data, .data, .data, .data, .data, .data, .data, .data, .data, .sentinel, .sentinel] true :=
  OpenClaim.laidByTextAt_pinned rfl rfl tie rfl rfl rfl rfl (fun y hy _e => by
    simp only [Rows.hostNilRow, List.zip_cons_cons, List.zip_nil_right, List.mem_cons, List.mem_nil_iff, or_false] at hy
    rcases hy with rfl | rfl | rfl | rfl | rfl | rfl | rfl | rfl | rfl | rfl | rfl | rfl | rfl | rfl | rfl
    · cases _e
    · cases _e
    · exact ⟨pin_laid_unicode_utf8_first, by kernel_rfl⟩
    · cases _e
    · cases _e
    · cases _e
    · cases _e
    · cases _e
    · cases _e
    · cases _e
    · cases _e
    · cases _e
    · cases _e
    · cases _e
    · cases _e) fits1
theorem turnsRefused_row_tie : Rows.turnsRefusedRow.laidByTextAt .later Tryz.pinned [.data, .listed, .pinned, .data, .data, .data, .data, .data, .data, .data, .data, .data, .data, .sentinel, .sentinel] true :=
  OpenClaim.laidByTextAt_pinned rfl rfl tie rfl rfl rfl rfl (fun y hy _e => by
    simp only [Rows.turnsRefusedRow, List.zip_cons_cons, List.zip_nil_right, List.mem_cons, List.mem_nil_iff, or_false] at hy
    rcases hy with rfl | rfl | rfl | rfl | rfl | rfl | rfl | rfl | rfl | rfl | rfl | rfl | rfl | rfl | rfl
    · cases _e
    · cases _e
    · exact ⟨pin_laid_unicode_utf8_first, by kernel_rfl⟩
    · cases _e
    · cases _e
    · cases _e
    · cases _e
    · cases _e
    · cases _e
    · cases _e
    · cases _e
    · cases _e
    · cases _e
    · cases _e
    · cases _e) fits1
theorem hostNilUpto_row_tie : Rows.hostNilUptoRow.laidByTextAt .later Tryz.pinned [.data, .listed, .pinned, .data, .data, .data, .data, .data, .data, .data, .data, .data, .data, .sentinel, .sentinel] true :=
  OpenClaim.laidByTextAt_pinned rfl rfl tie rfl rfl rfl rfl (fun y hy _e => by
    simp only [Rows.hostNilUptoRow, List.zip_cons_cons, List.zip_nil_right, List.mem_cons, List.mem_nil_iff, or_false] at hy
    rcases hy with rfl | rfl | rfl | rfl | rfl | rfl | rfl | rfl | rfl | rfl | rfl | rfl | rfl | rfl | rfl
    · cases _e
    · cases _e
    · exact ⟨pin_laid_unicode_utf8_first, by kernel_rfl⟩
    · cases _e
    · cases _e
    · cases _e
    · cases _e
    · cases _e
    · cases _e
    · cases _e
    · cases _e
    · cases _e
    · cases _e
    · cases _e
    · cases _e) fits1
theorem turnsRefusedUpto_row_tie : Rows.turnsRefusedUptoRow.laidByTextAt .later Tryz.pinned [.data, .listed, .pinned, .data, .data, .data, .data, .data, .data, .data, .data, .data, .data, .sentinel, .sentinel] true :=
  OpenClaim.laidByTextAt_pinned rfl rfl tie rfl rfl rfl rfl (fun y hy _e => by
    simp only [Rows.turnsRefusedUptoRow, List.zip_cons_cons, List.zip_nil_right, List.mem_cons, List.mem_nil_iff, or_false] at hy
    rcases hy with rfl | rfl | rfl | rfl | rfl | rfl | rfl | rfl | rfl | rfl | rfl | rfl | rfl | rfl | rfl
    · cases _e
    · cases _e
    · exact ⟨pin_laid_unicode_utf8_first, by kernel_rfl⟩
    · cases _e
    · cases _e
    · cases _e
    · cases _e
    · cases _e
    · cases _e
    · cases _e
    · cases _e
    · cases _e
    · cases _e
    · cases _e
    · cases _e) fits1
end Go.Proofs.YthcnjmgdmcgflaaGreatDoor
