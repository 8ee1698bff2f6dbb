/-
  What ShellNothing's callees do where there is no shell. No condition.
-/
import Derived.Test.YtiocolgkkdfokaaGreatDoorRows
import Derived.WalkKit
import Derived.WalkSpells
import Derived.WalkLawsBesides
import Derived.KernelRfl
namespace Go.Proofs.YtiocolgkkdfokaaGreatDoor
open Go.RowKit

set_option maxHeartbeats 400000 in
theorem new_nil (w : World) : Calls Tryz.prog 6 #[.pointer none] w fun e w' => e = .returned (.tuple #[.pointer none, .int .i64 1]) ∧ w' = w := by
  go_enter Tryz.func6, Tryz.ntmps6
  go_wp2
  go_ret2
  exact ⟨rfl, rfl⟩

set_option maxHeartbeats 400000 in
theorem set_nil (v0 v1 : Value) (w : World) : Calls Tryz.prog 8 #[.pointer none, v0, v1] w fun e w' => e = .returned (.int .i64 1) ∧ w' = w := by
  go_enter Tryz.func8, Tryz.ntmps8
  go_wp2
  go_ret
  exact ⟨rfl, rfl⟩

set_option maxHeartbeats 400000 in
theorem var_nil (v0 : Value) (w : World) : Calls Tryz.prog 10 #[.pointer none, v0] w fun e w' => e = .returned (.tuple #[.string "".toUTF8, .bool false]) ∧ w' = w := by
  go_enter Tryz.func10, Tryz.ntmps10
  go_wp2
  go_ret2
  exact ⟨rfl, rfl⟩

set_option maxHeartbeats 400000 in
theorem vars_nil (w : World) : Calls Tryz.prog 17 #[.pointer none] w fun e w' => e = .returned (.slice none 0 0) ∧ w' = w := by
  go_enter Tryz.func17, Tryz.ntmps17
  go_wp2
  go_ret
  exact ⟨rfl, rfl⟩

set_option maxHeartbeats 400000 in
theorem status_nil (w : World) : Calls Tryz.prog 18 #[.pointer none] w fun e w' => e = .returned (.int .i64 0) ∧ w' = w := by
  go_enter Tryz.func18, Tryz.ntmps18
  go_wp2
  go_ret
  exact ⟨rfl, rfl⟩

set_option maxHeartbeats 1000000 in
theorem run_nil (v0 v1 : Value) (w : World) : Calls Tryz.prog 15 #[.pointer none, v0, v1] w fun e w' => e = .returned (.tuple #[.slice none 0 0, .slice none 0 0, .int .i64 2]) ∧ Below w.heap.size w w' := by
  go_enter Tryz.func15, Tryz.ntmps15
  go_wp2
  refine bodyPost_ret (by simp [results, go_sem]; rfl) rfl ?_
  refine ⟨rfl, ?_⟩
  repeat first
    | exact Below.refl _ _
    | refine Below.setCell ?_ (by simp <;> omega) _
    | refine Below.alloc ?_ (by simp <;> omega) _

theorem twin_nil (w : World) : Calls Tryz.prog 16 #[.slice none 0 0] w fun e w' => (∃ r, e = .returned r) ∧ Below w.heap.size w w' := by
  go_enter Tryz.func16, Tryz.ntmps16
  go_wp2
  go_ret
  exact ⟨⟨_, rfl⟩, Below.refl _ _⟩

theorem byteInfo : ∃ i : TypeInfo, Tryz.prog.info? 5 = some i ∧ i.zero = some (.int .u8 0) ∧ i.size = 1 ∧ i.bytes = 1 := by
  have h : (Tryz.prog.info? 5).map (fun i => (i.size, i.bytes)) = some (1, 1) := by kernel_rfl
  have hz : (Tryz.prog.info? 5).bind (·.zero) = some (.int .u8 0) := by kernel_rfl
  obtain ⟨i, hi, h1⟩ := Option.map_eq_some_iff.1 h
  rw [hi] at hz
  simp only [Prod.mk.injEq] at h1
  exact ⟨i, hi, hz, h1.1, h1.2⟩

set_option maxHeartbeats 1000000 in
theorem twin_some (a : Addr) (n c : Nat) (zs : List Value) (w : World) (hl : zs.length = n) (h : ∀ j v, zs[j]? = some v → w.cell? (a.add j) = some v) (h1 : ∀ u ∈ zs, u.oneCell' = true) (h47 : n ≤ 140737488355328) :
    Calls Tryz.prog 16 #[.slice (some a) n c] w fun e w' => (∃ r, e = .returned r) ∧ Below w.heap.size w w' := by
  obtain ⟨i, hi, hz, hs, hb⟩ := byteInfo
  have hm : 0 + n ≤ maxLen := by simp only [maxLen]; omega
  go_enter Tryz.func16, Tryz.ntmps16
  go_wp2_with (at_builtin; refine wpList_append_own _ rfl (.tmp 4) (.tmp 5) 51 rfl w.heap.size 5 i (.int .u8 0) 1 1 Tryz.underlying51 hi hz hs hb rfl (by omega) (.slice none 0 0) 0 [] rfl (World.ownsRow_nil _ _ _ _) a n c zs rfl (by omega) h h1 hm (by omega) (Nat.le_refl _) ?_; intro v' w' hown hgrow _)
  go_ret
  exact ⟨⟨_, rfl⟩, (Below.refl _ w).grown hgrow (Nat.le_refl _) (fun k hk => by cases hk)⟩

theorem law_nothing (v0 v1 v2 : Value) (w : World) (ht : Calls Tryz.prog 16 #[v1] w fun e w' => (∃ r, e = .returned r) ∧ Below w.heap.size w w')
    (ha : ∀ w', Below w.heap.size w w' → Calls Tryz.prog 14 #[] w' fun e w'' => e = .returned (.bool true) ∧ Below w'.heap.size w' w'') :
    Calls Tryz.prog 4 #[v0, v1, v2] w fun e w' => e = .returned (.bool true) ∧ Below w.heap.size w w' := by
  go_enter Tryz.func4, Tryz.ntmps4
  go_wp2_with (first
    | (go_at_call 6; refine (new_nil _).mono ?_; rintro e w' ⟨rfl, rfl⟩)
    | (go_at_call 16; refine ht.mono ?_; rintro e w1 ⟨⟨r, rfl⟩, hb1⟩)
    | (go_at_call 15; refine (run_nil _ _ _).mono ?_; rintro e w2 ⟨rfl, hb2⟩)
    | (go_at_call 10; refine (var_nil _ _).mono ?_; rintro e w' ⟨rfl, rfl⟩)
    | (go_at_call 8; refine (set_nil _ _ _).mono ?_; rintro e w' ⟨rfl, rfl⟩)
    | (go_at_call 17; refine (vars_nil _).mono ?_; rintro e w' ⟨rfl, rfl⟩)
    | (go_at_call 18; refine (status_nil _).mono ?_; rintro e w' ⟨rfl, rfl⟩)
    | (go_at_call 7; go_in)
    | (go_at_call 14; refine (ha _ (hb1.trans (hb2.mono hb1.size))).mono ?_; rintro e w3 ⟨rfl, hb3⟩))
  go_ret
  exact ⟨rfl, (hb1.trans (hb2.mono hb1.size)).trans (hb3.mono (Nat.le_trans hb1.size hb2.size))⟩

end Go.Proofs.YtiocolgkkdfokaaGreatDoor
