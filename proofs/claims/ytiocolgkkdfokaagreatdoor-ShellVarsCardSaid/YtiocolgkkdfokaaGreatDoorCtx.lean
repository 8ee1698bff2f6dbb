/-
  The evaluator's two contexts at this program: inside once, and around it. No condition.
-/
import Derived.Test.YtiocolgkkdfokaaGreatDoorTabB
import Derived.Test.YtiocolgkkdfokaaGreatDoorIter2
namespace Go.Proofs.YtiocolgkkdfokaaGreatDoor
open Go Go.Ab

noncomputable def plainT (t : TypeId) : Bool := Nat.beq t 92 || Nat.beq t 230
theorem plainA : Tryz.prog.stoodInHeld 92 = false ∧ Tryz.prog.eqGuardType Tryz.prog.depth 92 = false := ⟨by kernel_rfl, by kernel_rfl⟩
theorem plainB : Tryz.prog.stoodInHeld 230 = false ∧ Tryz.prog.eqGuardType Tryz.prog.depth 230 = false := ⟨by kernel_rfl, by kernel_rfl⟩
theorem plainT_ok (t : TypeId) (h : plainT t = true) : Tryz.prog.stoodInHeld t = false ∧ Tryz.prog.eqGuardType Tryz.prog.depth t = false := by
  rcases Bool.or_eq_true_iff.1 h with h | h
  · have := Nat.eq_of_beq_eq_true h
    subst this
    exact plainA
  · have := Nat.eq_of_beq_eq_true h
    subst this
    exact plainB
theorem mixed : Tryz.prog.follows .mixedOrders = true := by kernel_rfl

noncomputable def hook1 (f : Nat) : Option (List AV → St → Res (AV × St)) := cond (Nat.beq f 38) (some (sortedHook 233 9)) none
noncomputable def ctx1 : Ctx := tabCtx 14 ftab etab ttab plainT hook1
theorem ctx1_ok : CtxOK Tryz.prog ctx1 := tabCtx_ok ftab_ok ttab_ok etab_ok plainT_ok mixed
theorem hooks1 : Hooks Tryz.prog ctx1 := by
  intro f h hf args s p hp
  have hf : hook1 f = some h := hf
  unfold hook1 at hf
  cases hb : Nat.beq f 38 with
  | false => rw [hb] at hf; cases hf
  | true =>
    rw [hb] at hf
    cases hf
    obtain rfl := Nat.eq_of_beq_eq_true hb
    exact sortedHook_ok sortedK hp

noncomputable def ops : List (List UInt8 × Int) := [([38,38], 3), ([124,124], 4), ([62,62], 10), ([50,62], 11), ([124], 5), ([59], 2), ([40], 6), ([41], 7), ([60], 8), ([62], 9)]
noncomputable def pows : List Int := [1, 10, 100, 1000, 10000, 100000, 1000000, 10000000, 100000000, 1000000000, 10000000000, 100000000000, 1000000000000, 10000000000000, 100000000000000, 1000000000000000, 10000000000000000, 100000000000000000, 1000000000000000000, 10000000000000000000]
noncomputable def once1 : Memo := { args := [.slice 16 0 1 1, .str [120,61,49,59,32,115,111,114,116,32,102,32,124,32,104,101,97,100,32,45,110,32,49,32,38,38,32,101,99,104,111,32,36,120,32,34,36,121,34,32,102,42,32,62,38,50], .snil], heap := [(15, .cells [.int .u8 98, .int .u8 10, .int .u8 97, .int .u8 10] 5 none .marked), (16, .cells [.str [102], .slice 15 0 4 4] 67 none .clean), (14, .tab (pairsA ops)), (1, .tab (intsA .u64 pows)), (0, .tab [.tslice 14 10])], next := 17, val := .tuple [.agg [.str [], .str [115,104,101,108,108,58,32,101,114,114,110,111,32,49,53,48,32,97,116,32,52,52,10], .int .i64 2], .ptr 25 0], after := 6195 }
noncomputable def once2 : Memo := { args := [.slice 6197 0 1 1, .str [120,61,49,59,32,115,111,114,116,32,102,32,124,32,104,101,97,100,32,45,110,32,49,32,38,38,32,101,99,104,111,32,36,120,32,34,36,121,34,32,102,42], .snil], heap := [(6196, .cells [.int .u8 98, .int .u8 10, .int .u8 97, .int .u8 10] 5 none .marked), (6197, .cells [.str [102], .slice 6196 0 4 4] 67 none .clean), (14, .tab (pairsA ops)), (1, .tab (intsA .u64 pows)), (0, .tab [.tslice 14 10])], next := 6198, val := .tuple [.agg [.str [97,10,49,32,32,102,10], .str [], .int .i64 0], .ptr 6206 0], after := 14113 }
end Go.Proofs.YtiocolgkkdfokaaGreatDoor
