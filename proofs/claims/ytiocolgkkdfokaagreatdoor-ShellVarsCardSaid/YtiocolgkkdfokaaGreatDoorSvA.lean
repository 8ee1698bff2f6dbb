/-
  What a name may be: the program's own test. Condition: a text of at most 2^63 - 1 bytes.
-/
import Derived.Test.YtiocolgkkdfokaaGreatDoorSvP
import Derived.Test.YtiocolgkkdfokaaGreatDoorProg
import Derived.WalkKit
import Derived.WalkSpells
import Derived.WalkLawsBesides
import Derived.LoopTactic
import Derived.KernelRfl
namespace Go.Proofs.YtiocolgkkdfokaaGreatDoor
open Go.RowKit
theorem get_of {l : List UInt8} {k : Nat} {c : UInt8} (hc : l[k]? = some c) (h : k < (ByteArray.mk l.toArray).size) : (ByteArray.mk l.toArray)[k]'h = c := by
  have := Option.some.inj ((List.getElem?_eq_getElem (by simpa [ByteArray.size] using h)).symm.trans hc)
  rw [← this]
  rfl
set_option maxHeartbeats 4000000 in
theorem named_ok (l : List UInt8) (w : World) (hl : (l.length : Int) ≤ 9223372036854775807) :
    Calls Tryz.prog 46 #[.string ⟨l.toArray⟩] w fun e w' => e = .returned (.bool (nameB l)) ∧ w' = w := by
  go_enter Tryz.func46, Tryz.ntmps46
  go_wp2
  go_loop [8] (fun i => ∃ k : Nat, k ≤ l.length ∧ i = .int .i64 k ∧ ∀ j c, j < k → l[j]? = some c → okAt j c.toNat) (fun i => l.length - (intOf i).toNat)
  case atStart => exact ⟨0, Nat.zero_le _, rfl, fun j c hj => by omega⟩
  case round =>
    obtain ⟨k, hk, rfl, hP⟩ := hrel
    by_cases hlt : k < l.length
    · obtain ⟨c, hc⟩ : ∃ c, l[k]? = some c := ⟨l[k], List.getElem?_eq_getElem hlt⟩
      have hg := get_of hc (by simpa [ByteArray.size] using hlt)
      have hstep : okAt k c.toNat → ∀ j c', j < k + 1 → l[j]? = some c' → okAt j c'.toNat := fun ho j c' hj hj' => by
        rcases Nat.lt_or_eq_of_le (Nat.lt_succ_iff.1 hj) with h | rfl
        · exact hP j c' h hj'
        · rw [hc] at hj'; cases hj'; exact ho
      have hno : ¬ okAt k c.toNat → nameB l = false := fun h => nameB_not hc h
      clear hP
      rcases Nat.eq_zero_or_pos k with rfl | hpos
      · go_wp2
        all_goals (first
          | (refine ⟨⟨1, by omega, by go_num, hstep ?_⟩, by simp [intOf]; omega⟩; rename_i hlast; (try simp only [Bool.not_eq_false', beq_iff_eq, decide_eq_true_eq] at hlast); unfold okAt; omega)
          | (go_ret; exact ⟨by rw [hno (by unfold okAt; omega)]; rfl, rfl⟩))
      · have hkz : ((k : Int) == 0) = false := by rw [beq_eq_false_iff_ne]; omega
        go_wp2
        all_goals (first
          | (refine ⟨⟨k + 1, by omega, by go_num, hstep ?_⟩, by simp [intOf]; omega⟩; rename_i hlast; (try simp only [Bool.not_eq_false', beq_iff_eq, decide_eq_true_eq] at hlast); unfold okAt; omega)
          | (go_ret; exact ⟨by rw [hno (by unfold okAt; omega)]; rfl, rfl⟩))
    · have : k = l.length := by omega
      subst this
      go_wp2
      go_ret
      have hend : nameB l = !l.isEmpty := by
        cases l with
        | nil => exact nameB_false fun h => h.1 rfl
        | cons a l => exact nameB_true ⟨by simp, fun j c hj => hP j c (List.getElem?_eq_some_iff.1 hj).1 hj⟩
      exact ⟨by rw [hend]; rfl, rfl⟩
end Go.Proofs.YtiocolgkkdfokaaGreatDoor
