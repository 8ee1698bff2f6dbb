/-
  What the row says of the functions that the call can lead to. No condition.
-/
import Derived.Test.YtiocolgkkdfokaaGreatDoorVCloA
import GoSem.ClaimGoes
set_option maxRecDepth 100000
namespace Go.Proofs.YtiocolgkkdfokaaGreatDoor
open Go Go.Ab
theorem lek : 1369 ≤ fuelN := by
  have h := clo_fuel
  revert h
  generalize fuelN = n
  exact fun h => Nat.le_of_ble_eq_true h
theorem clo : Tryz.prog.closure 3 = cloL := by
  have h := cloFast_ok (P := Tryz.prog) letab_ok 1369 [3] 0 [] cloR clo_bits clo_run fuelN lek
  rw [clo_rev] at h
  unfold Program.closure
  rw [← fuelN_eq]
  exact h
theorem cf9 : ((Rows.shellVarsRow.inPlace == Tryz.prog.inPlace 3)) = true := by
  unfold Program.inPlace
  rw [clo]
  kernel_rfl
theorem unf : Tryz.prog.unfollowed 3 = true := by
  unfold Program.unfollowed
  rw [clo]
  kernel_rfl
theorem cf10 : ((Rows.shellVarsRow.unfollowed == Tryz.prog.unfollowed 3)) = true := by
  rw [unf]
  kernel_rfl
theorem cf11 : ((Rows.shellVarsRow.recurses == Tryz.prog.recurses 3)) = true := by
  unfold Program.recurses
  rw [unf]
  kernel_rfl
theorem cf12 : ((Rows.shellVarsRow.named == Tryz.prog.varsNamed 3)) = true := by
  unfold Program.varsNamed
  rw [clo]
  kernel_rfl
theorem goesOwn : Tryz.prog.goes 3 = true := by
  unfold Program.goes
  rw [clo]
  kernel_rfl
end Go.Proofs.YtiocolgkkdfokaaGreatDoor
