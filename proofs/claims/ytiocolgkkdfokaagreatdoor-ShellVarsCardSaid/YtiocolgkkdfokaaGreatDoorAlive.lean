/-
  The concrete lines that every statement of this layer runs come out as they must, in every memory that holds the listed variables. No condition.
-/
import Derived.Test.YtiocolgkkdfokaaGreatDoorOnceA
import Derived.Test.YtiocolgkkdfokaaGreatDoorOnceB
import Derived.Test.YtiocolgkkdfokaaGreatDoorRows
import Derived.MakeChecks
namespace Go.Proofs.YtiocolgkkdfokaaGreatDoor
open Go Go.Ab Go.RowKit

noncomputable def hook2 (f : Nat) : Option (List AV → St → Res (AV × St)) := cond (Nat.beq f 28) (some (memoHook [once1, once2])) none
noncomputable def ctx2 : Ctx := tabCtx 14 ftab etab ttab plainT hook2
theorem ctx2_ok : CtxOK Tryz.prog ctx2 := tabCtx_ok ftab_ok ttab_ok etab_ok plainT_ok mixed
theorem hooks2 : Hooks Tryz.prog ctx2 := by
  intro f h hf args s p hp
  have hf : hook2 f = some h := hf
  unfold hook2 at hf
  cases hb : Nat.beq f 28 with
  | false => rw [hb] at hf; cases hf
  | true =>
    rw [hb] at hf
    cases hf
    obtain rfl := Nat.eq_of_beq_eq_true hb
    refine memoHook_ok (P := Tryz.prog) (C := ctx1) (C' := ctx2) rfl (fun m hm => ?_) hp
    rcases List.mem_cons.1 hm with rfl | hm
    · exact memo_of ctx1_ok hooks1 once1_run
    · rcases List.mem_cons.1 hm with rfl | hm
      · exact memo_of ctx1_ok hooks1 once2_run
      · cases hm

def isTrue (r : Res Out) : Bool :=
  match r with
  | .ok (.en (.returned (.bool true)) _) => true
  | _ => false
theorem isTrue_ok {r : Res Out} (h : isTrue r = true) : ∃ s, r = .ok (.en (.returned (.bool true)) s) := by
  unfold isTrue at h
  split at h
  · exact ⟨_, rfl⟩
  · cases h

theorem alive_run : isTrue (evF ctx2 2000 (.call 14 [] (startS 14 0 1 ops .u64 pows))) = true := by kernel_rfl

theorem laidTwo : Rows.shellNothingRow.laid.filter (fun x => x.1 == "mill/syntax.operators" || x.1 == "internal/strconv.uint64pow10") =
    [("internal/strconv.uint64pow10", .agg (pows.map fun z => .lit (.int .u64 z))), ("mill/syntax.operators", .slice (ops.map fun p => .agg [.lit (.string p.1), .lit (.int .u8 p.2)]) [])] := by kernel_rfl
theorem plainLaid' : (Rows.shellNothingRow.laid.all fun x => x.2.handleName?.isNone) = true := by kernel_rfl

theorem alive_ok {W : World} (hL : laidMetH Tryz.prog Rows.shellNothingRow.laid W) (w : World) (hb : Below W.heap.size W w) :
    Calls Tryz.prog 14 #[] w fun e w' => e = .returned (.bool true) ∧ Below w.heap.size w w' := by
  rw [MakeChecks.laidMetH_plain _ _ _ plainLaid'] at hL
  obtain ⟨c, d, h1, h2⟩ := laidStart_ok (G := 14) hL laidTwo (show Tryz.prog.globalNamed "mill/syntax.operators" = some 0 by kernel_rfl) (show Tryz.prog.globalNamed "internal/strconv.uint64pow10" = some 1 by kernel_rfl)
    (show (Tryz.prog.globals[0]?).map (·.type) = some 214 by kernel_rfl) (show (Tryz.prog.globals[1]?).map (·.type) = some 262 by kernel_rfl) Tryz.underlying214 Tryz.underlying262 Tryz.underlying204 Tryz.underlying215
    Tryz.underlying9 Tryz.underlying143 rfl rfl (by kernel_rfl) (by kernel_rfl) (by kernel_rfl) (by kernel_rfl) (by kernel_rfl) (by simp [ops]) (by simp [pows]) (by omega) (by omega) (by omega)
  obtain ⟨s', hr⟩ := isTrue_ok alive_run
  rw [evF_eq] at hr
  refine calls_bool ctx2_ok hooks2 (E := startE 14 c d) startE_free (startE_globs (C := ctx2)) (fun b ao hg => ?_) h2 (xs := #[]) .nil hr
  obtain ⟨k1, c', κ, o, k2, k3, k4⟩ := h1 b ao hg
  exact ⟨k1, c', κ, o, k2, by rw [hb.block c' (size_of_get k3)]; exact k3, k4⟩
end Go.Proofs.YtiocolgkkdfokaaGreatDoor
