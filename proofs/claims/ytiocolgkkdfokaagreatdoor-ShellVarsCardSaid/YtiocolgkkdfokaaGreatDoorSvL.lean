/-
  ShellVars, walked: whatever the variables and the name, the program's shell and the document's answer alike. No condition.
-/
import Derived.Test.YtiocolgkkdfokaaGreatDoorSvQ
namespace Go.Proofs.YtiocolgkkdfokaaGreatDoor
open Go Go.Ab Go.RowKit

theorem grown_drew (w : World) (row : Option Nat) : w.grownBy w.drew row := ⟨rfl, rfl, rfl, Nat.le_refl _, fun _ _ _ => rfl⟩
theorem MapIs.drew {w : World} {b : Nat} {L : List Pr} (h : MapIs w b L) : MapIs w.drew b L := h.kept (grown_drew _ none) (by simp)
theorem Both.drew {w2 w : World} {cm qb : Nat} {L : List Pr} (h : Both w2 cm qb w L) : Both w2 cm qb w.drew L :=
  ⟨h.map.drew, h.grown.andThen (row' := some cm) (grown_drew _ _) (fun _ hj => .inr hj), h.list, h.stat, h.thaw, h.old, h.ne⟩
theorem cell_kept {w2 w W : World} {cm : Nat} (hb : Below W.heap.size W w2) (hcm : W.heap.size ≤ cm) (hg : w2.grownBy w (some cm)) {a : Addr} {x : Value} (hx : W.cell? a = some x) : w.cell? a = some x := by
  have hlt := World.block_lt_of_cell? _ _ hx
  exact hg.cell ((hb.cell hlt).trans hx) (fun e => by cases e; omega)

theorem frozen_new (w : World) (xs : Array Value) (t : TypeId) (o : Nat) : (w.alloc (.cells xs t)).frozen? ⟨w.heap.size, o, none⟩ = false := by
  have h : (w.alloc (.cells xs t)).heap[(⟨w.heap.size, o, none⟩ : Addr).block]? = some (.cells xs t) := by
    show (w.heap.push (.cells xs t))[w.heap.size]? = _
    simp
  unfold World.frozen?
  rw [h]
  simp

theorem field_stats (l : List Value) (w : World) : (Instr.field 47 (.agg ⟨.int .i64 0 :: l⟩) 0).run Tryz.prog w = .ok (.int .i64 0) w := by
  simp [Instr.field, go_sem, Go.part, asAgg]

theorem num_ok (n : Int) (w : World) : Calls Tryz.prog 7 #[.int .i64 n] w fun e w' => e = .returned (.int .i64 n) ∧ w' = w := by
  go_enter Tryz.func7, Tryz.ntmps7
  go_wp2
  all_goals (go_ret; exact ⟨rfl, rfl⟩)

theorem addr_one (a : Addr) (i : Nat) : (⟨(a.add i).block, (a.add i).off + 1, none⟩ : Addr) = a.add (i + 1) := by
  unfold Addr.add
  split <;> simp_all [Nat.add_assoc]

set_option maxHeartbeats 1000000 in
theorem var_mark (cb : Nat) (w : World) (hs : w.cell? ⟨cb, 2, none⟩ = some (.int .i64 0)) :
    Calls Tryz.prog 10 #[.pointer (some ⟨cb, 0, none⟩), .string ⟨#[63]⟩] w fun e w' => e = .returned (.tuple #[.string ⟨#[48]⟩, .bool true]) ∧ w.grownBy w' none := by
  go_enter Tryz.func10, Tryz.ntmps10
  go_wp2_with (go_at_call 25; refine (itoa_ok _).mono ?_; rintro e w' ⟨rfl, hg⟩)
  all_goals (go_ret2; exact ⟨rfl, hg⟩)

variable {b : Nat} {s1 : St} {c : Nat} {s2 : St} {m : Nat} {s3 : St}

set_option maxRecDepth 20000 in
set_option maxHeartbeats 8000000 in
theorem law_vars (HP : Parts b s1 c s2 m s3) (sa : Option Addr) (a : Addr) (cap : Nat) (l : List Pr) (name : List UInt8) (W : World) (hsa : 0 < l.length → sa = some a) {n : Nat} (hn : l.length = n) (hn63 : (n : Int) ≤ 9223372036854775807)
    (hcells : ∀ j q, l[j]? = some q → W.cell? (a.add (j * 2)) = some (.string ⟨q.1.toArray⟩) ∧ W.cell? (a.add (j * 2 + 1)) = some (.string ⟨q.2.toArray⟩))
    (hlen : ∀ q ∈ l, (q.1.length : Int) ≤ 9223372036854775807 ∧ (q.2.length : Int) ≤ 9223372036854775807) (hnm : (name.length : Int) ≤ 9223372036854775807)
    (alive : ∀ w, Below W.heap.size W w → Calls Tryz.prog 14 #[] w fun e w' => e = .returned (.bool true) ∧ Below w.heap.size w w') :
    Calls Tryz.prog 3 #[.slice sa n cap, .string ⟨name.toArray⟩] W fun e w' => e = .returned (.bool true) ∧ Below W.heap.size W w' := by
  have HC : Hid (∀ j q, l[j]? = some q → W.cell? (a.add (j * 2)) = some (.string ⟨q.1.toArray⟩) ∧ W.cell? (a.add (j * 2 + 1)) = some (.string ⟨q.2.toArray⟩)) := hcells
  clear hcells
  go_enter Tryz.func3, Tryz.ntmps3
  go_wp2_with (first
    | (go_at_call 5; refine (room_ok HP _).mono ?_; rintro e w1 ⟨E1, cb, κb, rfl, hE1, hp1⟩)
    | (go_at_call 6; refine (new_ok HP hE1 hp1).mono ?_; rintro e w2 ⟨E2, cc, κc, rfl, hEb, hEc, hp2⟩; obtain ⟨cm, κm, hEm, hcm, hM, hc1, hc2, hne⟩ := shell_is HP hEc hp2)
    | (go_at_call 7; refine (num_ok _ _).mono ?_; rintro e w' ⟨rfl, hw'⟩; have hw' := hw'.symm; subst hw'))
  have HB : Hid (Both w2 cm w2.heap.size (w2.alloc (.cells #[.pointer none, .slice none 0 0, .int .i64 0, .bool false, .bool false] 36)) []) :=
    ⟨hM.kept (World.grownBy_alloc _ _ none) (by simp), World.grownBy_alloc _ _ _, ⟨none, 0, 0, by simp, fun h => absurd h (by simp), fun j p hp => by simp at hp⟩, by simp, frozen_new _ _ _ _, Nat.le_refl _, by have := hM.lt; omega⟩
  have hb2 := pre_below hp2
  have HS1 : Hid (w2.cell? ⟨cc, 1, none⟩ = some (.map (some cm))) := hc1
  have HS2 : Hid (w2.cell? ⟨cc, 2, none⟩ = some (.int .i64 0)) := hc2
  have hne' : some cc ≠ some cm := fun e => hne (by cases e; rfl)
  clear hM hc1 hc2
  go_loopw [10] (fun iv wl => ∃ (k : Nat) (L : List Pr), iv = .int .i64 k ∧ k ≤ n ∧ Hid (Both w2 cm w2.heap.size wl L)) (fun iv _ => n - (intOf iv).toNat)
  case atStart => exact ⟨0, [], rfl, Nat.zero_le _, HB⟩
  case round =>
    obtain ⟨k, L, rfl, hk, HB1⟩ := hrel
    by_cases hlt : k < n
    · obtain rfl := hsa (by omega)
      obtain ⟨q, hq⟩ : ∃ q, l[k]? = some q := ⟨l[k]'(by omega), List.getElem?_eq_getElem (by omega)⟩
      obtain ⟨hx0, hx1⟩ := HC.out k q hq
      rw [← addr_one] at hx1
      obtain ⟨hl0, hl1⟩ := hlen q (List.mem_of_getElem? hq)
      have hB := HB1.out.drew
      have hs0 := cell_kept hb2 hcm hB.grown hx0
      have hs0' := cell_kept hb2 hcm hB.grown hx1
      have h64 := hB.map.le
      have hset := set_ok cc cm L q.1 q.2 wr.drew (hB.grown.cell HS1.out hne') hl0 hl1 hB.map
      go_wp2_with fail
      go_region_held3 (fun w' => w'.cell? (a.add (k * 2)) = some (.string ⟨q.1.toArray⟩) ∧ w'.cell? ⟨(a.add (k * 2)).block, (a.add (k * 2)).off + 1, none⟩ = some (.string ⟨q.2.toArray⟩)) (first | exact ⟨hs0, hs0'⟩ | exact ⟨hs1, hs1'⟩ | exact ⟨hs2, hs2'⟩)
        (first
          | (go_at_call 8; refine hset.mono ?_; rintro e w3 ⟨rfl, hM3, hg3⟩; have hH := hB.half hM3 hg3; have hs1 := cell_kept hb2 hcm hH.grown hx0; have hs1' := cell_kept hb2 hcm hH.grown hx1)
          | (go_at_call 7; refine (num_ok _ _).mono ?_; rintro e w' ⟨rfl, hw'⟩; have hw' := hw'.symm; subst hw')
          | (go_at_call 9; refine (hH.set_ok h64 hl0 hl1).mono ?_; rintro e w4 ⟨rfl, hB4, _⟩; have hs2 := cell_kept hb2 hcm hB4.grown hx0; have hs2' := cell_kept hb2 hcm hB4.grown hx1))
      go_wp2
      go_roundw
      case rel => exact ⟨k + 1, _, by go_num, by omega, hB4⟩
      case measure => simp [intOf]; omega
    · clear HC hsa
      have hB := HB1.out
      have h64 := hB.map.le
      obtain ⟨sq, gq, capq, hq1, hq2, hq3⟩ := hB.list
      have hst := hB.stat
      have hcc1 := hB.grown.cell HS1.out hne'
      have hcc2 := hB.grown.cell HS2.out hne'
      by_cases h63 : name = [63]
      · subst h63
        have hvar := var_mark cc wr hcc2
        go_wp2_with (first
          | (go_at_call 10; refine hvar.mono ?_; rintro e w3 ⟨rfl, hg3⟩; have hval := value_ok w2.heap.size gq capq sq L [63] w3 h64 (hg3.cell hq1 (by simp)) (fun hL => (hq2 hL).1) (hq3.kept hg3 (by simp)))
          | (go_at_call 11; refine hval.mono ?_; rintro e w4 ⟨rfl, rfl⟩)
          | (go_at_call 12; refine (same_ok cc cm w2.heap.size gq capq sq L w4 (hg3.cell hcc1 (by simp)) (hg3.cell hcc2 (by simp)) (hB.map.kept hg3 (by simp)) (hg3.cell hq1 (by simp)) (hg3.cell hst (by simp)) (fun hL => (hq2 hL).1) (hq3.kept hg3 (by simp))).mono ?_; rintro e w5 ⟨rfl, hg5⟩)
          | (go_at_call 13; refine (stats_ok HP hEb hEm hp2 ((hB.grown.andThen hg3 (by simp)).andThen hg5 (by simp)) hcm).mono ?_; rintro e w6 ⟨fl, rfl, hb6⟩; have hfl := field_stats fl w6)
          | (go_at_call 14; refine (alive w6 hb6).mono ?_; rintro e w7 ⟨rfl, hb7⟩))
        go_ret
        exact ⟨rfl, hb6.trans (hb7.mono hb6.size)⟩
      · have hvar := var_ok cc cm L name wr hcc1 hnm h63 hB.map
        have hq63 : (name == [63]) = false := by simpa using h63
        go_wp2_with (first
          | (go_at_call 10; refine hvar.mono ?_; rintro e w3 ⟨rfl, hg3⟩; have hval := value_ok w2.heap.size gq capq sq L name w3 h64 (hg3.cell hq1 (by simp)) (fun hL => (hq2 hL).1) (hq3.kept hg3 (by simp)))
          | (go_at_call 11; refine hval.mono ?_; rintro e w4 ⟨rfl, rfl⟩)
          | (go_at_call 12; refine (same_ok cc cm w2.heap.size gq capq sq L w4 (hg3.cell hcc1 (by simp)) (hg3.cell hcc2 (by simp)) (hB.map.kept hg3 (by simp)) (hg3.cell hq1 (by simp)) (hg3.cell hst (by simp)) (fun hL => (hq2 hL).1) (hq3.kept hg3 (by simp))).mono ?_; rintro e w5 ⟨rfl, hg5⟩)
          | (go_at_call 13; refine (stats_ok HP hEb hEm hp2 ((hB.grown.andThen hg3 (by simp)).andThen hg5 (by simp)) hcm).mono ?_; rintro e w6 ⟨fl, rfl, hb6⟩; have hfl := field_stats fl w6)
          | (go_at_call 14; refine (alive w6 hb6).mono ?_; rintro e w7 ⟨rfl, hb7⟩))
        go_ret
        exact ⟨rfl, hb6.trans (hb7.mono hb6.size)⟩
end Go.Proofs.YtiocolgkkdfokaaGreatDoor
