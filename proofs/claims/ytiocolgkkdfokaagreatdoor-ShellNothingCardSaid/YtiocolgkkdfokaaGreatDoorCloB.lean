/-
  What the row says of the functions that the call can lead to. No condition.
-/
import Derived.Test.YtiocolgkkdfokaaGreatDoorCloA
import GoSem.ClaimGoes
set_option maxRecDepth 100000
namespace Go.Proofs.YtiocolgkkdfokaaGreatDoor
open Go Go.Ab
theorem lek : 1359 ≤ fuelN := by
  have h := clo_fuel
  revert h
  generalize fuelN = n
  exact fun h => Nat.le_of_ble_eq_true h
theorem clo : Tryz.prog.closure 4 = cloL := by
  have h := cloFast_ok (P := Tryz.prog) letab_ok 1359 [4] 0 [] cloR clo_bits clo_run fuelN lek
  rw [clo_rev] at h
  unfold Program.closure
  rw [← fuelN_eq]
  exact h
theorem cf9 : ((Rows.shellNothingRow.inPlace == Tryz.prog.inPlace 4)) = true := by
  unfold Program.inPlace
  rw [clo]
  kernel_rfl
theorem unf : Tryz.prog.unfollowed 4 = true := by
  unfold Program.unfollowed
  rw [clo]
  kernel_rfl
theorem cf10 : ((Rows.shellNothingRow.unfollowed == Tryz.prog.unfollowed 4)) = true := by
  rw [unf]
  kernel_rfl
theorem cf11 : ((Rows.shellNothingRow.recurses == Tryz.prog.recurses 4)) = true := by
  unfold Program.recurses
  rw [unf]
  kernel_rfl
theorem cf12 : ((Rows.shellNothingRow.named == Tryz.prog.varsNamed 4)) = true := by
  unfold Program.varsNamed
  rw [clo]
  kernel_rfl
theorem goesOwn : Tryz.prog.goes 4 = true := by
  unfold Program.goes
  rw [clo]
  kernel_rfl
end Go.Proofs.YtiocolgkkdfokaaGreatDoor
