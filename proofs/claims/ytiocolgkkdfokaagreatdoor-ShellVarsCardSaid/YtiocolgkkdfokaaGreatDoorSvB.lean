/-
  What a name may be: the document's test. Condition: a text of at most 2^63 - 1 bytes.
-/
import Derived.Test.YtiocolgkkdfokaaGreatDoorSvA
namespace Go.Proofs.YtiocolgkkdfokaaGreatDoor
open Go.RowKit
def digB (c : Nat) : Bool := decide (48 ≤ c ∧ c ≤ 57)
def letB (c : Nat) : Bool := decide ((97 ≤ c ∧ c ≤ 122) ∨ (65 ≤ c ∧ c ≤ 90) ∨ c = 95)
set_option maxHeartbeats 400000 in
theorem digit_ok (c : UInt8) (w : World) : Calls Tryz.prog 69 #[.int .u8 c.toNat] w fun e w' => e = .returned (.bool (digB c.toNat)) ∧ w' = w := by
  go_enter Tryz.func69, Tryz.ntmps69
  go_wp2
  all_goals (go_ret; exact ⟨congrArg (fun b => Ending.returned (Value.bool b)) (by rw [Bool.eq_iff_iff]; simp [digB]; try omega), rfl⟩)
set_option maxHeartbeats 400000 in
theorem letter_ok (c : UInt8) (w : World) : Calls Tryz.prog 70 #[.int .u8 c.toNat] w fun e w' => e = .returned (.bool (letB c.toNat)) ∧ w' = w := by
  go_enter Tryz.func70, Tryz.ntmps70
  go_wp2
  all_goals (go_ret; exact ⟨congrArg (fun b => Ending.returned (Value.bool b)) (by rw [Bool.eq_iff_iff]; simp [letB]; try omega), rfl⟩)
set_option maxHeartbeats 4000000 in
theorem isName_ok (l : List UInt8) (w : World) (hl : (l.length : Int) ≤ 9223372036854775807) (hq : (l == [63]) = false) :
    Calls Tryz.prog 47 #[.string ⟨l.toArray⟩] w fun e w' => e = .returned (.bool (nameB l)) ∧ w' = w := by
  by_cases hpos : 0 < l.length
  · obtain ⟨a, ha⟩ : ∃ a, l[0]? = some a := ⟨l[0], List.getElem?_eq_getElem hpos⟩
    have hg := get_of ha (by simpa [ByteArray.size] using hpos)
    have hne : ((l.length : Int) == 0) = false := by rw [beq_eq_false_iff_ne]; omega
    cases hd : digB a.toNat with
    | true =>
      have hn : nameB l = false := nameB_not ha (by unfold okAt; simp only [digB, decide_eq_true_eq] at hd; omega)
      go_enter Tryz.func47, Tryz.ntmps47
      go_wp2_with (go_at_call 69; refine (digit_ok _ _).mono ?_; rintro e w' ⟨rfl, rfl⟩)
      go_ret
      exact ⟨by rw [hn]; rfl, rfl⟩
    | false =>
      have hd0 : ¬ (48 ≤ a.toNat ∧ a.toNat ≤ 57) := by simpa [digB] using hd
      go_enter Tryz.func47, Tryz.ntmps47
      go_wp2_with (go_at_call 69; refine (digit_ok _ _).mono ?_; rintro e w' ⟨rfl, rfl⟩)
      clear hg hd hne
      go_loop [3] (fun i => ∃ k : Nat, k ≤ l.length ∧ i = .int .i64 k ∧ ∀ j c, j < k → l[j]? = some c → letB c.toNat = true ∨ digB c.toNat = true) (fun i => l.length - (intOf i).toNat)
      case atStart => exact ⟨0, Nat.zero_le _, rfl, fun j c hj => by omega⟩
      case round =>
        obtain ⟨k, hk, rfl, hP⟩ := hrel
        by_cases hlt : k < l.length
        · obtain ⟨c, hc⟩ : ∃ c, l[k]? = some c := ⟨l[k], List.getElem?_eq_getElem hlt⟩
          have hg := get_of hc (by simpa [ByteArray.size] using hlt)
          have hstep : letB c.toNat = true ∨ digB c.toNat = true → ∀ j c', j < k + 1 → l[j]? = some c' → letB c'.toNat = true ∨ digB c'.toNat = true := fun ho j c' hj hj' => by
            rcases Nat.lt_or_eq_of_le (Nat.lt_succ_iff.1 hj) with h | rfl
            · exact hP j c' h hj'
            · rw [hc] at hj'; cases hj'; exact ho
          have hno : letB c.toNat = false → digB c.toNat = false → nameB l = false := fun h1 h2 => nameB_not hc (by simp only [letB, digB, decide_eq_false_iff_not] at h1 h2; unfold okAt; omega)
          clear hP
          cases hL : letB c.toNat <;> cases hD : digB c.toNat
          all_goals (
            go_wp2_with (first
              | (go_at_call 69; refine (digit_ok _ _).mono ?_; rintro e w' ⟨rfl, rfl⟩)
              | (go_at_call 70; refine (letter_ok _ _).mono ?_; rintro e w' ⟨rfl, rfl⟩)))
          all_goals (first
            | (refine ⟨⟨k + 1, by omega, by go_num, hstep (by first | exact .inl hL | exact .inr hD)⟩, by simp [intOf]; omega⟩)
            | (go_ret; exact ⟨by rw [hno hL hD]; rfl, rfl⟩))
        · have : k = l.length := by omega
          subst this
          go_wp2
          go_ret
          refine ⟨?_, rfl⟩
          have hend : nameB l = true := nameB_true ⟨(fun h => by rw [h] at hpos; exact absurd hpos (Nat.lt_irrefl 0)), fun j c hj => by
            have := hP j c (List.getElem?_eq_some_iff.1 hj).1 hj
            unfold okAt
            simp only [letB, digB, decide_eq_true_eq] at this
            rcases Nat.eq_zero_or_pos j with rfl | hj0
            · rw [ha] at hj; cases hj; omega
            · omega⟩
          rw [hend]; rfl
  · have : l = [] := by cases l with | nil => rfl | cons a l => simp at hpos
    subst this
    go_enter Tryz.func47, Tryz.ntmps47
    go_wp2
    go_ret
    exact ⟨by rw [nameB_false fun h => h.1 rfl]; rfl, rfl⟩
end Go.Proofs.YtiocolgkkdfokaaGreatDoor
