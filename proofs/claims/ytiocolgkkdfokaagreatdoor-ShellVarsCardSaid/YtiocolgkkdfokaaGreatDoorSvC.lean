/-
  The shell's map of variables: what Set and Var do with it. Condition: texts of at most 2^63 - 1 bytes.
-/
import Derived.Test.YtiocolgkkdfokaaGreatDoorSvB
import Derived.Maps.OwnSet
import Derived.StringKeys
namespace Go.Proofs.YtiocolgkkdfokaaGreatDoor
open Go.RowKit Go.Maps Go.WideElems
/-- how a variable's value reads -/
def RV : Value → Option (DataW Unit × List MemPlace)
  | .agg ⟨[.string s]⟩ => if s.size ≤ maxLen then some (.lit (.string s.data.toList), []) else none
  | _ => none
theorem RV_inv {v : Value} {d : DataW Unit} {ps : List MemPlace} (h : RV v = some (d, ps)) : ∃ s : ByteArray, v = .agg #[.string s] ∧ d = .lit (.string s.data.toList) ∧ ps = [] ∧ s.size ≤ maxLen := by
  unfold RV at h
  split at h
  · rename_i s
    split at h
    · rename_i hs
      cases h
      exact ⟨s, rfl, rfl, rfl, hs⟩
    · cases h
  · cases h
theorem RV_mk {s : ByteArray} (hs : s.size ≤ maxLen) : RV (.agg #[.string s]) = some (.lit (.string s.data.toList), []) := by
  show (if s.size ≤ maxLen then _ else _) = _
  rw [if_pos hs]
theorem key9 {k : List UInt8} (hk : (k.length : Int) ≤ 9223372036854775807) : keyOf Tryz.prog 9 (.string ⟨k.toArray⟩) = some (.string k) := by
  have := WideMaps.keyOf_string_mk (P := Tryz.prog) (k := 9) Tryz.underlying9 (s := ⟨k.toArray⟩) (by simp [ByteArray.size, maxLen]; omega)
  simpa using this
theorem rz : RV (.agg #[.string ⟨#[]⟩]) = some (.lit (.string []), []) := RV_mk (s := ⟨#[]⟩) (by simp [ByteArray.size])

/-- block b is the shell's map of these variables -/
def MapIs (w : World) (b : Nat) (L : List Pr) : Prop := ∃ D, w.ownsMap Tryz.prog 9 RV b 64 D ∧ Ties D L
theorem MapIs.le {w : World} {b : Nat} {L : List Pr} (h : MapIs w b L) : L.length ≤ 64 := by
  obtain ⟨D, h1, h2⟩ := h
  rw [← h2.size]; exact h1.size_le
theorem MapIs.rises {w : World} {b : Nat} {L : List Pr} (h : MapIs w b L) : Rises L := by
  obtain ⟨D, _, h2⟩ := h
  exact h2.2
theorem tight {w : World} {b n m : Nat} {D : DataW Unit} (h : w.ownsMap Tryz.prog 9 RV b n D) (hm : Maps.size D ≤ m) : w.ownsMap Tryz.prog 9 RV b m D := by
  obtain ⟨es, clock, hb, F, hs, rfl⟩ := h
  refine ⟨es, clock, hb, F, ?_, rfl⟩
  have e1 : Maps.size (DataW.map ((es.toList.map (rg Tryz.prog 9 RV)).foldr DataW.insert [])) = es.size := by simp [Maps.size, length_sorted]
  rw [← e1]; exact hm
theorem MapIs.kept {w w' : World} {b : Nat} {L : List Pr} {row : Option Nat} (h : MapIs w b L) (hg : w.grownBy w' row) (hne : some b ≠ row) : MapIs w' b L := by
  obtain ⟨D, h1, h2⟩ := h
  exact ⟨D, h1.kept hg hne, h2⟩
theorem MapIs.lt {w : World} {b : Nat} {L : List Pr} (h : MapIs w b L) : b < w.heap.size := by
  obtain ⟨D, h1, _⟩ := h
  exact h1.lt

/-- what 'v, ok := m[k]' gives -/
theorem MapIs.look {w : World} {b : Nat} {L : List Pr} (h : MapIs w b L) {k : List UInt8} (hk : (k.length : Int) ≤ 9223372036854775807) :
    (Instr.lookup 68 (.map (some b)) (.string ⟨k.toArray⟩) true).run Tryz.prog w = .ok (.tuple #[.agg #[.string ⟨((lookL k L).getD []).toArray⟩], .bool (lookL k L).isSome]) w := by
  obtain ⟨D, h1, h2⟩ := h
  obtain ⟨v0, ps0, hrun, hv⟩ := h1.look_ok (string_keyed Tryz.underlying9) Tryz.underlying68 (Tryz.zeroValue77 w) rz (key9 hk)
  obtain ⟨s0, rfl, hd, _, _⟩ := RV_inv hv
  rw [h2.at] at hd
  simp only [DataW.lit.injEq, Lit.string.injEq] at hd
  rw [hrun, h2.has, hd]
theorem MapIs.look1 {w : World} {b : Nat} {L : List Pr} (h : MapIs w b L) {k : List UInt8} (hk : (k.length : Int) ≤ 9223372036854775807) :
    (Instr.lookup 68 (.map (some b)) (.string ⟨k.toArray⟩) false).run Tryz.prog w = .ok (.agg #[.string ⟨((lookL k L).getD []).toArray⟩]) w := by
  obtain ⟨D, h1, h2⟩ := h
  obtain ⟨v0, ps0, hrun, hv⟩ := h1.lookup (string_keyed Tryz.underlying9) Tryz.underlying68 (Tryz.zeroValue77 w) rz (key9 hk)
  obtain ⟨s0, rfl, hd, _, _⟩ := RV_inv hv
  rw [h2.at] at hd
  simp only [DataW.lit.injEq, Lit.string.injEq] at hd
  rw [hrun, hd]
theorem MapIs.len {w : World} {b : Nat} {L : List Pr} (h : MapIs w b L) : (Builtin.len_ #[68] 3 #[.map (some b)]).run Tryz.prog w = .ok (.int .i64 L.length) w := by
  obtain ⟨D, h1, h2⟩ := h
  rw [h1.len Tryz.underlying68, h2.size]
theorem MapIs.store {w : World} {b : Nat} {L : List Pr} (h : MapIs w b L) {k v : List UInt8} (hk : (k.length : Int) ≤ 9223372036854775807) (hv : (v.length : Int) ≤ 9223372036854775807) (hle : (ins k v false (wo k L)).length ≤ 64) :
    ∃ w', (Instr.mapUpdate 68 (.map (some b)) (.string ⟨k.toArray⟩) (.agg #[.string ⟨v.toArray⟩])).run Tryz.prog w = .ok () w' ∧ MapIs w' b (ins k v false (wo k L)) ∧ w.grownBy w' (some b) := by
  obtain ⟨D, h1, h2⟩ := h
  obtain ⟨w', hrun, h3, h4⟩ := h1.update (string_keyed Tryz.underlying9) Tryz.underlying68 (by simp [maxLen]) (key9 hk) (RV_mk (s := ⟨v.toArray⟩) (by simp [ByteArray.size, maxLen]; omega))
  have h5 := h2.put k v
  refine ⟨w', hrun, ⟨_, tight (m := 64) h3 ?_, ?_⟩, h4⟩
  · have := h5.size
    simp only at this ⊢
    omega
  · exact h5

set_option maxRecDepth 20000 in
set_option maxHeartbeats 4000000 in
theorem assign_ok (b : Nat) (L : List Pr) (k v : List UInt8) (w : World) (hk : (k.length : Int) ≤ 9223372036854775807) (hv : (v.length : Int) ≤ 9223372036854775807) (hM : MapIs w b L) :
    Calls Tryz.prog 21 #[.map (some b), .string ⟨k.toArray⟩, .string ⟨v.toArray⟩] w fun e w' => e = .returned (.int .i64 (code L k v)) ∧ MapIs w' b (nxt L k v) ∧ w.grownBy w' (some b) := by
  have hN := named_ok k w hk
  by_cases hbad : nameB k = false ∨ 4096 < v.length
  · rw [code_bad hbad, nxt_bad hbad]
    cases hB : nameB k with
    | false =>
      rw [hB] at hN
      clear hB hbad
      go_enter Tryz.func21, Tryz.ntmps21
      go_wp2_with (go_at_call 46; refine hN.mono ?_; rintro e w' ⟨rfl, rfl⟩)
      all_goals (go_ret; exact ⟨rfl, hM, World.grownBy.refl _ _⟩)
    | true =>
      rw [hB] at hN
      have hLi : (4096 : Int) < v.length := by rcases hbad with h | h; rw [hB] at h; cases h; omega
      clear hB hbad
      go_enter Tryz.func21, Tryz.ntmps21
      go_wp2_with (go_at_call 46; refine hN.mono ?_; rintro e w' ⟨rfl, rfl⟩)
      all_goals (go_ret; exact ⟨rfl, hM, World.grownBy.refl _ _⟩)
  · have hB : nameB k = true := by cases h : nameB k; exact absurd (.inl h) hbad; rfl
    have hLi : ¬ (4096 : Int) < v.length := fun h => hbad (.inr (by omega))
    rw [hB] at hN
    have hlook := hM.look hk
    obtain ⟨x, hx⟩ : ∃ x, ((lookL k L).getD []) = x := ⟨_, rfl⟩
    rw [hx] at hlook
    have hM1 : MapIs (w.alloc (.cells #[.string ⟨x.toArray⟩] 77)) b L := hM.kept (World.grownBy_alloc _ _ none) (by simp)
    have hlen := hM1.len
    by_cases hm : lookL k L = none ∧ 64 ≤ L.length
    · rw [code_many hbad hm, nxt_many hbad hm]
      obtain ⟨hm1, hm2⟩ := hm
      have hm3 : (64 : Int) ≤ L.length := by omega
      rw [hm1] at hlook
      have hlook : (Instr.lookup 68 (.map (some b)) (.string ⟨k.toArray⟩) true).run Tryz.prog w = .ok (.tuple #[.agg #[.string ⟨x.toArray⟩], .bool false]) w := hlook
      have HM : Hid (MapIs (w.alloc (.cells #[.string ⟨x.toArray⟩] 77)) b L) := hM1
      clear hB hbad hm2 hM1 hM hx hm1
      go_enter Tryz.func21, Tryz.ntmps21
      go_wp2_with (go_at_call 46; refine hN.mono ?_; rintro e w' ⟨rfl, rfl⟩)
      all_goals (go_ret; exact ⟨rfl, HM.out, World.grownBy_alloc _ _ _⟩)
    · rw [code_ok hbad hm, nxt_ok hbad hm]
      obtain ⟨w2, hup, hM2, hg2⟩ := hM1.store hk hv (new_length hM.le hm)
      have HM : Hid (MapIs w2 b (ins k v false (wo k L))) := hM2
      have HG : Hid (w.grownBy w2 (some b)) := (World.grownBy_alloc w _ (some b)).andThen hg2 (fun j hj => .inr hj)
      cases hi : (lookL k L).isSome with
      | true =>
        rw [hi] at hlook
        clear hB hbad hm hM1 hM hM2 hg2 hx hi hlen
        go_enter Tryz.func21, Tryz.ntmps21
        go_wp2_with (go_at_call 46; refine hN.mono ?_; rintro e w' ⟨rfl, rfl⟩)
        all_goals (go_ret; exact ⟨rfl, HM.out, HG.out⟩)
      | false =>
        rw [hi] at hlook
        have hm3 : ¬ (64 : Int) ≤ L.length := fun h => hm ⟨by simpa using hi, by omega⟩
        clear hB hbad hm hM1 hM hM2 hg2 hx hi
        go_enter Tryz.func21, Tryz.ntmps21
        go_wp2_with (go_at_call 46; refine hN.mono ?_; rintro e w' ⟨rfl, rfl⟩)
        all_goals (go_ret; exact ⟨rfl, HM.out, HG.out⟩)

set_option maxHeartbeats 1000000 in
theorem set_ok (cb b : Nat) (L : List Pr) (k v : List UInt8) (w : World) (hc : w.cell? ⟨cb, 1, none⟩ = some (.map (some b))) (hk : (k.length : Int) ≤ 9223372036854775807) (hv : (v.length : Int) ≤ 9223372036854775807) (hM : MapIs w b L) :
    Calls Tryz.prog 8 #[.pointer (some ⟨cb, 0, none⟩), .string ⟨k.toArray⟩, .string ⟨v.toArray⟩] w fun e w' => e = .returned (.int .i64 (code L k v)) ∧ MapIs w' b (nxt L k v) ∧ w.grownBy w' (some b) := by
  have hA := assign_ok b L k v w hk hv hM
  go_enter Tryz.func8, Tryz.ntmps8
  go_wp2_with (go_at_call 21; refine hA.mono ?_; rintro e w' ⟨rfl, h1, h2⟩)
  all_goals (go_ret; exact ⟨rfl, h1, h2⟩)

set_option maxHeartbeats 1000000 in
theorem var_ok (cb b : Nat) (L : List Pr) (k : List UInt8) (w : World) (hc : w.cell? ⟨cb, 1, none⟩ = some (.map (some b))) (hk : (k.length : Int) ≤ 9223372036854775807) (hq : ¬ k = [63]) (hM : MapIs w b L) :
    Calls Tryz.prog 10 #[.pointer (some ⟨cb, 0, none⟩), .string ⟨k.toArray⟩] w fun e w' => e = .returned (.tuple #[.string ⟨((lookL k L).getD []).toArray⟩, .bool (lookL k L).isSome]) ∧ w.grownBy w' none := by
  have hlook := hM.look hk
  have hq1 : (k == [63]) = false := by simpa using hq
  clear hM
  go_enter Tryz.func10, Tryz.ntmps10
  go_wp2
  all_goals (go_ret2; exact ⟨rfl, World.grownBy_alloc _ _ _⟩)
end Go.Proofs.YtiocolgkkdfokaaGreatDoor
