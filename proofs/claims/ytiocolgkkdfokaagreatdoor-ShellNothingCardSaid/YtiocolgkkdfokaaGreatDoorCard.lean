/-
  ShellNothing: the row and its tied card hold: whatever the line, the input and the name: a shell that is not there answers as it should, and the concrete lines come out as they must. No condition.
-/
import Derived.Test.YtiocolgkkdfokaaGreatDoorRow
import Derived.Test.YtiocolgkkdfokaaGreatDoorClosed
import Derived.Test.YtiocolgkkdfokaaGreatDoorMyTie
import Derived.Test.YtiocolgkkdfokaaGreatDoorCards
import Derived.SevenTiedAt
set_option maxRecDepth 100000
namespace Go.Proofs.YtiocolgkkdfokaaGreatDoor
open Go.ChangeShapes Go.WideShapes Go.ChangeAt Go.RowKit Go.Clock

theorem fn_named : Tryz.pinned.checked.prog.funcNamed Rows.shellNothingRow.func = some 4 := by kernel_rfl
theorem inst : Tryz.f4.isInstance Tryz.pinned.checked.prog Rows.shellNothingRow.origin Rows.shellNothingRow.targs := of_decide_eq_true (by kernel_rfl)
theorem wrap : Tryz.f4.isWrapper Tryz.pinned.checked.prog Rows.shellNothingRow.wrapper Rows.shellNothingRow.mainSum := by
  unfold Func.isWrapper; first | (rw [if_pos (by decide +kernel)]; kernel_rfl) | (rw [if_neg (by decide +kernel)]; exact ⟨rfl, rfl⟩)

theorem row_holds : Rows.ShellNothingSaid :=
  OpenClaim.holds_of_wide_leaving_time 4 Tryz.f4 rfl rfl rfl rfl rfl rfl rfl ⟨rfl, rfl, rfl, rfl, rfl⟩ rfl rfl rfl rfl rfl fn_named Tryz.func4 closed inst wrap
    (fun os started H enc _ F => lifted os started H enc F)

theorem hw7 : Rows.shellNothingRow.wfByText (OpenSpec.ofChange Rows.shellNothingSpec) = true := by kernel_rfl
theorem hm7 : Tryz.pinned.checked.prog.mainIs = some (true, "7983fc8fdd21f657328f2ccbdcc68e47452337d162b6f033bb67185353e7e35b".toList) := by kernel_rfl
theorem hl7 : true = Tryz.pinned.checked.prog.looks [] := by kernel_rfl
theorem hs7 : ([9, 51, 9].all fun u => !Tryz.prog.wantsStandIn u) = true := by kernel_rfl
theorem hg7 : true = Rows.shellNothingRow.goesBy Tryz.pinned.checked.prog := by
  have e : Tryz.pinned.checked.prog = Tryz.prog := rfl
  have h : Tryz.pinned.checked.prog.goesFrom Rows.shellNothingRow.func = true := by
    unfold Program.goesFrom
    rw [fn_named, Option.any_some, e]
    exact goesOwn
  unfold OpenClaim.goesBy Program.goesAt
  rw [h]
  exact (Bool.true_or _).symm

theorem card_holds : Rows.ShellNothingCardSaid := by
  refine ⟨Claim7.tied_new_at .later [.data, .data, .data, .data, .data, .data, .data, .data, .data, .widerDeep, .data, .widerDeep, .pinned] true (Claim7.new_of_sixth row_holds (true, "7983fc8fdd21f657328f2ccbdcc68e47452337d162b6f033bb67185353e7e35b") true rfl ⟨rfl, rfl⟩ hm7 rfl (fun f fn hf hfn => ?_)) hw7, (fun D hD => by cases hD), shellNothing_row_tie, (fun h => by cases h), hg7⟩
  obtain rfl : f = 4 := Option.some.inj (fn_named.symm.trans hf) |>.symm
  obtain rfl : fn = Tryz.f4 := (Option.some.inj (Tryz.func4.symm.trans hfn)).symm
  refine ⟨hl7, fun j t ht => ?_⟩
  rw [Tryz.params4] at ht
  have hm : t ∈ [9, 51, 9] := by simpa using Array.mem_of_getElem? ht
  exact (show Tryz.prog.wantsStandIn t = false by simpa using List.all_eq_true.1 hs7 t hm)

end Go.Proofs.YtiocolgkkdfokaaGreatDoor
