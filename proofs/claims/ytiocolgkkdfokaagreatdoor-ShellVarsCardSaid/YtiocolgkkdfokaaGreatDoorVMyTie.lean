/-
  The tie of the listed variables to the program's text: the given tie's closed facts, one theorem each. No condition.
-/
import Derived.Test.YtiocolgkkdfokaaGreatDoorRows
import Derived.LaidByTextLater
import Derived.SevenTiedAt
import Derived.LaidSub
import Derived.LaidOnce
set_option maxRecDepth 100000
namespace Go.Proofs.YtiocolgkkdfokaaGreatDoor
open Go
noncomputable def tieList : List (String × DataW Unit) := [("math/bits.deBruijn32tab", Rows.laid_math_bits_deBruijn32tab), ("math/bits.deBruijn64tab", Rows.laid_math_bits_deBruijn64tab), ("internal/strconv.uint64pow10", Rows.laid_internal_strconv_uint64pow10), ("unicode/utf8.acceptRanges", Rows.laid_unicode_utf8_acceptRanges), ("mill/squeeze.bases", Rows.laid_mill_squeeze_bases), ("mill/squeeze.steps", Rows.laid_mill_squeeze_steps), ("mill/keyspec.mods", Rows.laid_mill_keyspec_mods), ("mill/numeral.groups", Rows.laid_mill_numeral_groups), ("mill/numeral.months", Rows.laid_mill_numeral_months), ("mill/spill.magic", Rows.laid_mill_spill_magic), ("mill/syntax.operators", Rows.laid_mill_syntax_operators), ("mill/temps.uses", Rows.laid_mill_temps_uses)]
theorem tf1 : Tryz.prog.worded (varsWordLater true) = true := by kernel_rfl
theorem tf2 : Tryz.prog.worded (varsWordLater !true) = false := by kernel_rfl
theorem tf3 : Tryz.prog.worded rootWordLater = true := by kernel_rfl
theorem tf4 : tieList.map (fun x => Tryz.prog.kindOfLater x.1) = ([.data, .data, .data, .data, .data, .data, .data, .data, .data, .widerDeep, .data, .widerDeep] : List LaidKind).map some := by kernel_rfl
theorem tf5 : (Tryz.prog.funcNamed "gosem.cut.vars").isSome = true := by kernel_rfl
theorem tf6 : varsNamedLaterB Tryz.prog (varsId Tryz.prog) tieList = true := by kernel_rfl
theorem tf7 (os : Os) (tape : Tape) : doorLeaves Tryz.prog 94 8 65 tieList os tape = some (tieList.filter fun x => x.2.handleName?.isNone, (funcsListed tieList).map (·.2.funcsOut)) := by kernel_rfl
theorem seatTie1 : Tryz.prog.laidByTextLater tieList [.data, .data, .data, .data, .data, .data, .data, .data, .data, .widerDeep, .data, .widerDeep] true :=
  Program.laidByTextLater_by_one 94 8 65 tf1 tf2 tf3 tf4 tf5 tf6 tf7
theorem pin_laid_unicode_utf8_first : Tryz.pinned.checked.prog.pinnedFits "unicode/utf8.first" = true := by kernel_rfl
theorem noOwnUnsafe : Tryz.pinned.checked.prog.headLifts.contains "ownunsafe" = false := by kernel_rfl
theorem fits1 : Tryz.pinned.checked.prog.listedFits [("math/bits.deBruijn32tab", Rows.laid_math_bits_deBruijn32tab), ("math/bits.deBruijn64tab", Rows.laid_math_bits_deBruijn64tab), ("internal/strconv.uint64pow10", Rows.laid_internal_strconv_uint64pow10), ("unicode/utf8.acceptRanges", Rows.laid_unicode_utf8_acceptRanges), ("mill/squeeze.bases", Rows.laid_mill_squeeze_bases), ("mill/squeeze.steps", Rows.laid_mill_squeeze_steps), ("mill/keyspec.mods", Rows.laid_mill_keyspec_mods), ("mill/numeral.groups", Rows.laid_mill_numeral_groups), ("mill/numeral.months", Rows.laid_mill_numeral_months), ("mill/spill.magic", Rows.laid_mill_spill_magic), ("mill/syntax.operators", Rows.laid_mill_syntax_operators), ("mill/temps.uses", Rows.laid_mill_temps_uses), ("unicode/utf8.first", Rows.laid_unicode_utf8_first)] = true := by
  unfold Program.listedFits
  rw [noOwnUnsafe]
  kernel_rfl
theorem tie : Tryz.prog.laidByTextLater [("math/bits.deBruijn32tab", Rows.laid_math_bits_deBruijn32tab), ("math/bits.deBruijn64tab", Rows.laid_math_bits_deBruijn64tab), ("internal/strconv.uint64pow10", Rows.laid_internal_strconv_uint64pow10), ("unicode/utf8.acceptRanges", Rows.laid_unicode_utf8_acceptRanges), ("mill/squeeze.bases", Rows.laid_mill_squeeze_bases), ("mill/squeeze.steps", Rows.laid_mill_squeeze_steps), ("mill/keyspec.mods", Rows.laid_mill_keyspec_mods), ("mill/numeral.groups", Rows.laid_mill_numeral_groups), ("mill/numeral.months", Rows.laid_mill_numeral_months), ("mill/spill.magic", Rows.laid_mill_spill_magic), ("mill/syntax.operators", Rows.laid_mill_syntax_operators), ("mill/temps.uses", Rows.laid_mill_temps_uses)] [.data, .data, .data, .data, .data, .data, .data, .data, .data, .widerDeep, .data, .widerDeep] true :=
  Program.laidByTextLater.sub seatTie1 ["math/bits.deBruijn32tab", "math/bits.deBruijn64tab", "internal/strconv.uint64pow10", "unicode/utf8.acceptRanges", "mill/squeeze.bases", "mill/squeeze.steps", "mill/keyspec.mods", "mill/numeral.groups", "mill/numeral.months", "mill/spill.magic", "mill/syntax.operators", "mill/temps.uses"] (by kernel_rfl) (by kernel_rfl)
theorem shellVars_row_tie : Rows.shellVarsRow.laidByTextAt .later Tryz.pinned [.data, .data, .data, .data, .data, .data, .data, .data, .data, .widerDeep, .data, .widerDeep, .pinned] true :=
  OpenClaim.laidByTextAt_pinned rfl rfl tie rfl rfl rfl rfl (fun y hy _e => by
    simp only [Rows.shellVarsRow, List.zip_cons_cons, List.zip_nil_right, List.mem_cons, List.mem_nil_iff, or_false] at hy
    rcases hy with rfl | rfl | rfl | rfl | rfl | rfl | rfl | rfl | rfl | rfl | rfl | rfl | rfl
    · cases _e
    · cases _e
    · cases _e
    · cases _e
    · cases _e
    · cases _e
    · cases _e
    · cases _e
    · cases _e
    · cases _e
    · cases _e
    · cases _e
    · exact ⟨pin_laid_unicode_utf8_first, by kernel_rfl⟩) fits1
end Go.Proofs.YtiocolgkkdfokaaGreatDoor
