/-
  ShellVars: the row and its tied card hold: whatever the variables that are set, one behind the other, and the name that is asked for: what each Set answers, the variable, all variables and the status are the document's, and the system is asked for nothing. No condition.
-/
import Derived.Test.YtiocolgkkdfokaaGreatDoorSvRow
import Derived.Test.YtiocolgkkdfokaaGreatDoorVClosed
import Derived.Test.YtiocolgkkdfokaaGreatDoorVMyTie
import Derived.Test.YtiocolgkkdfokaaGreatDoorCards
import Derived.SevenTiedAt
set_option maxRecDepth 100000
namespace Go.Proofs.YtiocolgkkdfokaaGreatDoor
open Go.ChangeShapes Go.WideShapes Go.ChangeAt Go.RowKit Go.Clock

theorem fn_namedV : Tryz.pinned.checked.prog.funcNamed Rows.shellVarsRow.func = some 3 := by kernel_rfl
theorem instV : Tryz.f3.isInstance Tryz.pinned.checked.prog Rows.shellVarsRow.origin Rows.shellVarsRow.targs := of_decide_eq_true (by kernel_rfl)
theorem wrapV : Tryz.f3.isWrapper Tryz.pinned.checked.prog Rows.shellVarsRow.wrapper Rows.shellVarsRow.mainSum := by
  unfold Func.isWrapper; first | (rw [if_pos (by decide +kernel)]; kernel_rfl) | (rw [if_neg (by decide +kernel)]; exact ⟨rfl, rfl⟩)

theorem vars_row_holds : Rows.ShellVarsSaid :=
  OpenClaim.holds_of_wide_leaving_time 3 Tryz.f3 rfl rfl rfl rfl rfl rfl rfl ⟨rfl, rfl, rfl, rfl, rfl⟩ rfl rfl rfl rfl rfl fn_namedV Tryz.func3 closed instV wrapV
    (fun os started H enc _ F => liftedV os started H enc F)

theorem hv7 : Rows.shellVarsRow.wfByText (OpenSpec.ofChange Rows.shellVarsSpec) = true := by kernel_rfl
theorem hvm7 : Tryz.pinned.checked.prog.mainIs = some (true, "7983fc8fdd21f657328f2ccbdcc68e47452337d162b6f033bb67185353e7e35b".toList) := by kernel_rfl
theorem hvl7 : true = Tryz.pinned.checked.prog.looks [] := by kernel_rfl
theorem hvs7 : ([22, 9].all fun u => !Tryz.prog.wantsStandIn u) = true := by kernel_rfl
theorem hvg7 : true = Rows.shellVarsRow.goesBy Tryz.pinned.checked.prog := by
  have e : Tryz.pinned.checked.prog = Tryz.prog := rfl
  have h : Tryz.pinned.checked.prog.goesFrom Rows.shellVarsRow.func = true := by
    unfold Program.goesFrom
    rw [fn_namedV, Option.any_some, e]
    exact goesOwn
  unfold OpenClaim.goesBy Program.goesAt
  rw [h]
  exact (Bool.true_or _).symm

theorem vars_card_holds : Rows.ShellVarsCardSaid := by
  refine ⟨Claim7.tied_new_at .later [.data, .data, .data, .data, .data, .data, .data, .data, .data, .widerDeep, .data, .widerDeep, .pinned] true (Claim7.new_of_sixth vars_row_holds (true, "7983fc8fdd21f657328f2ccbdcc68e47452337d162b6f033bb67185353e7e35b") true rfl ⟨rfl, rfl⟩ hvm7 rfl (fun f fn hf hfn => ?_)) hv7, (fun D hD => by cases hD), shellVars_row_tie, (fun h => by cases h), hvg7⟩
  obtain rfl : f = 3 := Option.some.inj (fn_namedV.symm.trans hf) |>.symm
  obtain rfl : fn = Tryz.f3 := (Option.some.inj (Tryz.func3.symm.trans hfn)).symm
  refine ⟨hvl7, fun j t ht => ?_⟩
  rw [Tryz.params3] at ht
  have hm : t ∈ [22, 9] := by simpa using Array.mem_of_getElem? ht
  exact (show Tryz.prog.wantsStandIn t = false by simpa using List.all_eq_true.1 hvs7 t hm)

end Go.Proofs.YtiocolgkkdfokaaGreatDoor
