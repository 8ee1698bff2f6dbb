/-
  The shell's Vars, its status, and the comparison with the document's. No condition.
-/
import Derived.Test.YtiocolgkkdfokaaGreatDoorSvM
import Derived.Test.YtiocolgkkdfokaaGreatDoorSvC
import Derived.Test.YtiocolgkkdfokaaGreatDoorSvIter
import Derived.Test.YtiocolgkkdfokaaGreatDoorIter2
import Derived.BigQuiet
namespace Go.Proofs.YtiocolgkkdfokaaGreatDoor
open Go Go.RowKit Go.Maps Go.Sort Go.Shelf Go.WideElems Go.Proofs.YtiocolgkkdfokaaGreatDoor

theorem MapIs.key_le {w : World} {b : Nat} {L : List Pr} (h : MapIs w b L) {p : Pr} (hp : p ∈ L) : (p.1.length : Int) ≤ 9223372036854775807 := by
  obtain ⟨D, h1, ⟨es, rfl, hperm⟩, _⟩ := h
  obtain ⟨es', he, hk⟩ := h1.keysOf
  cases he
  obtain ⟨key, hkey⟩ := hk (cv p) (hperm.mem_iff.2 (List.mem_map.2 ⟨p, hp, rfl⟩))
  obtain ⟨x, _, hx, hl⟩ := Maps.keyOf_str Tryz.underlying9 hkey
  simp only [cv, Lit.string.injEq] at hx
  subst hx
  simp only [maxLen] at hl
  omega

theorem field_var (x : Value) (w : World) : (Instr.field 77 (.agg #[x]) 0).run Tryz.prog w = .ok x w := by
  simp [Instr.field, go_sem, Go.part, asAgg]

theorem sorted_ok (Bm b : Nat) (L : List Pr) (w : World) (hm : w.cell? ⟨Bm, 0, none⟩ = some (.map (some b))) (hM : MapIs w b L) :
    Calls Tryz.prog 38 #[.func (.func 63) #[] #[.pointer (some ⟨Bm, 0, none⟩)]] w fun e w' => ∃ v, e = .returned v ∧ w'.ownsRow w.heap.size 9 1 v (L.map (·.1)).length ((L.map (·.1)).map encStr) ∧ w.grownBy w' none := by
  obtain ⟨D, hown, hT⟩ := hM
  have hBm : Bm < w.heap.size := World.block_lt_of_cell? _ _ hm
  have hD := hown.size_le
  have hseq := AnyZ.keys_gives (ρ := Tryz.keys39_ren) { Tryz.keys39 with } Fence.wide 2 trivial rfl (by omega) Bm b 64 D w hBm hm hown
  have h := AnyZ.sorted_in Tryz.sorted38 Fence.wide 5 trivial trivial trivial trivial rfl (by omega) (sorts46 _) (enters_of Tryz.func62 (by kernel_rfl) rfl) 63 #[.pointer (some ⟨Bm, 0, none⟩)] trivial (enters_of Tryz.func63 (by kernel_rfl) rfl)
    _ _ (Nat.le_trans hD (by decide)) (by omega) w hseq
  refine ((callsIn_wide (n := 5)).1 h).mono ?_
  rintro e w' ⟨v, ss, rfl, hS, hrow, _, hb'⟩
  have e1 : ss.mergeSort (fun x y => decide (x ≤ y)) = L.map (·.1) := hT.keys hS
  have e2 : ss.length = (L.map (·.1)).length := by rw [← e1]; simp
  rw [e1, e2] at hrow
  exact ⟨v, rfl, hrow, hb'.os, hb'.tape, hb'.output, hb'.size, fun k hk _ => hb'.block k hk⟩

theorem rowS_read {w : World} {base : Nat} {v : Value} {xs : List (List UInt8)} (h : w.ownsRow base 9 1 v xs.length (xs.map encStr)) : ∃ (sa : Option Addr) (g cap : Nat), v = .slice sa xs.length cap ∧ (0 < xs.length → sa = some ⟨g, 0, none⟩ ∧ base ≤ g ∧ g < w.heap.size) ∧
    ∀ j x, xs[j]? = some x → w.cell? ⟨g, j, none⟩ = some (.string ⟨x.toArray⟩) := by
  have hc : ∀ {g : Nat}, v.ownBlock = some g → ∀ j u, (xs.map encStr)[j]? = some u → w.cell? ((⟨g, 0, none⟩ : Addr).add j) = some u := fun hg => World.ownsRow.cells h hg
  have hlt := World.ownsRow.lt h
  obtain ⟨_, ⟨rfl, h0⟩ | ⟨g, cap, cur, rfl, hb, hh, _⟩⟩ := h
  · have : xs = [] := List.eq_nil_of_length_eq_zero h0
    subst this
    exact ⟨none, 0, 0, rfl, fun h => absurd h (by simp), fun j p hp => by simp at hp⟩
  · refine ⟨_, g, cap, rfl, fun _ => ⟨rfl, hlt g rfl⟩, fun j x hx => ?_⟩
    have h1 := hc rfl j (encStr x) (by rw [List.getElem?_map, hx]; rfl)
    simpa only [add_at, Nat.zero_add, encStr] using h1

set_option maxRecDepth 20000 in
set_option maxHeartbeats 4000000 in
theorem vars_ok (cb cm : Nat) (L : List Pr) (w : World) (hc : w.cell? ⟨cb, 1, none⟩ = some (.map (some cm))) (hM : MapIs w cm L) :
    Calls Tryz.prog 17 #[.pointer (some ⟨cb, 0, none⟩)] w fun e w' => ∃ v, e = .returned v ∧ Row w' w.heap.size v L ∧ w.grownBy w' none := by
  obtain ⟨i, hi, hz, hs, hb⟩ := varInfo
  have hS := sorted_ok w.heap.size cm L (w.alloc (.cells #[.map (some cm)] 68)) (by simp) (hM.kept (World.grownBy_alloc _ _ none) (by simp))
  have HM : Hid (MapIs w cm L) := hM
  have HC : Hid (w.cell? ⟨cb, 1, none⟩ = some (.map (some cm))) := hc
  have h64 := hM.le
  have hr := hM.rises
  clear hM
  go_enter Tryz.func17, Tryz.ntmps17
  go_wp2_with (first
    | (go_at_call 39; go_in)
    | (go_at_call 38; refine hS.mono ?_; rintro e w1 ⟨v1, rfl, hrow1, hg1⟩; obtain ⟨sa1, g1, cap1, rfl, hsa1, hA1⟩ := rowS_read hrow1; rw [List.length_map] at hsa1 ⊢; have HG1 : Hid (w.grownBy w1 none) := (World.grownBy_alloc w _ none).andThen hg1 (by simp); have HA1 : Hid _ := hA1; clear hrow1 hg1 hA1 hc hS))
  go_loopw [3, 15] (fun lv iv wl => ∃ (j : Nat) (A : List Pr) (u : Value), lv = u ∧ iv = .int .i64 j ∧ j ≤ L.length ∧ A.length = j ∧ Hid (A = L.take j) ∧ Hid (Row wl w1.heap.size u A) ∧ Hid (w1.grownBy wl none)) (fun _ iv _ => L.length - (intOf iv).toNat)
  case atStart => exact ⟨0, [], _, rfl, rfl, Nat.zero_le _, rfl, rfl, row_nil _ _, World.grownBy.refl _ _⟩
  case round =>
    obtain ⟨j, A, u, hu, rfl, hj, hAj, HT, HR, HG⟩ := hrel
    have hu := hu.symm
    subst hu
    have hsz := HG.out.size
    by_cases hlt : j < L.length
    · obtain ⟨rfl, _, _⟩ := hsa1 (by omega)
      obtain ⟨p, hp⟩ : ∃ p, L[j]? = some p := ⟨L[j], List.getElem?_eq_getElem hlt⟩
      have hmem : p ∈ L := List.mem_of_getElem? hp
      have hx := HG.out.cell (HA1.out j p.1 (by rw [List.getElem?_map, hp]; rfl)) (by simp)
      have hc := HG.out.cell (HG1.out.cell HC.out (by simp)) (by simp)
      have hMr : MapIs wr cm L := (HM.out.kept HG1.out (by simp)).kept HG.out (by simp)
      have hlook := hMr.look1 (HM.out.key_le hmem)
      rw [lookL_of hr hmem rfl] at hlook
      have hlook : (Instr.lookup 68 (.map (some cm)) (.string ⟨p.1.toArray⟩) false).run Tryz.prog wr = .ok (.agg #[.string ⟨p.2.toArray⟩]) wr := hlook
      have HT2 : Hid (A ++ [p] = L.take (j + 1)) := by
        show _ = _
        rw [HT.out, List.take_add_one, hp]; rfl
      have hown : (wr.alloc (.cells #[.string ⟨p.1.toArray⟩, .string ⟨p.2.toArray⟩] 39)).ownsRow w1.heap.size 39 2 u A.length (cellsV A) := World.ownsRow.alloc HR.out _
      have hfield := field_var (.string ⟨p.2.toArray⟩) wr
      clear hMr hp hmem HT hr
      go_wp2_with (at_builtin; refine wpList_append_own _ rfl (.tmp 19) (.tmp 29) 22 rfl w1.heap.size 39 i (.agg #[.string ⟨#[]⟩, .string ⟨#[]⟩]) 2 32 Tryz.underlying22 hi hz hs hb rfl (by omega) u A.length (cellsV A) rfl hown ⟨wr.heap.size, 0, none⟩ 1 1 [.string ⟨p.1.toArray⟩, .string ⟨p.2.toArray⟩] rfl rfl (two_new _ _ _ _) (by simp [Value.oneCell']) (by simp [maxLen]; omega) (by omega) (by simp; omega) ?_; intro v2 w2 hown2 hg2 _)
      have HG2 : Hid (w1.grownBy w2 none) := (HG.out.andThen (row' := none) (World.grownBy_alloc _ _ _) (by simp)).andThen hg2 (fun j hj => .inl (hown.lt j hj).1)
      have HR2 : Hid (Row w2 w1.heap.size v2 (A ++ [p])) := Row.push hown2
      clear hown hown2 hg2 HR HG hlook
      go_roundw
      case rel => exact ⟨j + 1, A ++ [p], _, rfl, by go_num, by omega, by simp; omega, HT2, HR2, HG2⟩
      case measure => simp [intOf]; omega
    · have hres : A = L := by rw [HT.out, List.take_of_length_le (by omega)]
      have : j = L.length := by omega
      subst this
      subst hres
      go_wp2
      go_ret
      exact ⟨_, rfl, Row.weaken HR.out HG1.out.size, HG1.out.andThen HG.out (by simp)⟩

theorem status_ok (cb : Nat) (w : World) (hc : w.cell? ⟨cb, 2, none⟩ = some (.int .i64 0)) : Calls Tryz.prog 18 #[.pointer (some ⟨cb, 0, none⟩)] w fun e w' => e = .returned (.int .i64 0) ∧ w' = w := by
  go_enter Tryz.func18, Tryz.ntmps18
  go_wp2
  go_ret
  exact ⟨rfl, rfl⟩

theorem grown_drewN (w : World) (n : Nat) (row : Option Nat) : w.grownBy (w.drewN n) row := ⟨rfl, rfl, rfl, Nat.le_refl _, fun _ _ _ => rfl⟩

set_option maxRecDepth 20000 in
set_option maxHeartbeats 4000000 in
theorem same_ok (cb cm qb g cap : Nat) (sa : Option Addr) (L : List Pr) (w : World) (hc1 : w.cell? ⟨cb, 1, none⟩ = some (.map (some cm))) (hc2 : w.cell? ⟨cb, 2, none⟩ = some (.int .i64 0)) (hM : MapIs w cm L)
    (hE : w.cell? ⟨qb, 1, none⟩ = some (.slice sa L.length cap)) (hq2 : w.cell? ⟨qb, 2, none⟩ = some (.int .i64 0)) (hsa : 0 < L.length → sa = some ⟨g, 0, none⟩) (hA : At w g L) :
    Calls Tryz.prog 12 #[.pointer (some ⟨cb, 0, none⟩), .pointer (some ⟨qb, 0, none⟩)] w fun e w' => e = .returned (.bool true) ∧ w.grownBy w' none := by
  have hV := vars_ok cb cm L w hc1 hM
  have h64 := hM.le
  have HA : Hid (At w g L) := hA
  have HE : Hid (w.cell? ⟨qb, 1, none⟩ = some (.slice sa L.length cap)) := hE
  have HS : Hid (w.cell? ⟨cb, 2, none⟩ = some (.int .i64 0)) := hc2
  have HQ : Hid (w.cell? ⟨qb, 2, none⟩ = some (.int .i64 0)) := hq2
  clear hM hA hE hc2 hq2
  go_enter Tryz.func12, Tryz.ntmps12
  go_wp2_with (go_at_call 17; refine hV.mono ?_; rintro e w1 ⟨v1, rfl, hrow1, hg1⟩; obtain ⟨sa1, g1, cap1, rfl, hsa1, hA1⟩ := hrow1.read; have hs1 := hg1.cell HS.out (by simp); have hq1 := hg1.cell HQ.out (by simp); have he1 := hg1.cell HE.out (by simp); have HG1 : Hid (w.grownBy w1 none) := hg1; have HA1 : Hid (At w1 g1 L) := hA1; clear hrow1 hg1 hA1 hV hc1)
  go_quiet ((go_at_call 18; refine Calls.quiet_of_same (status_ok _ _ ?_); assumption))
  go_wp2
  go_loopw [6] (fun iv wl => ∃ (j n : Nat), iv = .int .i64 j ∧ j ≤ L.length ∧ wl = w1.drewN n) (fun iv _ => L.length - (intOf iv).toNat)
  case atStart => exact ⟨0, _, rfl, Nat.zero_le _, rfl⟩
  case round =>
    obtain ⟨j, n, rfl, hj, rfl⟩ := hrel
    by_cases hlt : j < L.length
    · obtain ⟨rfl, _, _⟩ := hsa1 (by omega)
      obtain rfl := hsa (by omega)
      obtain ⟨p, hp⟩ : ∃ p, L[j]? = some p := ⟨L[j], List.getElem?_eq_getElem hlt⟩
      obtain ⟨hc0, hc1⟩ := HA1.out j p hp
      obtain ⟨hd0, hd1⟩ := (HA.out.kept HG1.out (by simp)) j p hp
      clear hp
      go_wp2_with fail
      go_quiet (fail)
      go_wp2
      exact ⟨⟨j + 1, _, by go_num, by omega, rfl⟩, by simp [intOf]; omega⟩
    · have : j = L.length := by omega
      subst this
      go_wp2
      go_ret
      exact ⟨rfl, HG1.out.andThen (row' := none) (grown_drewN _ _ _) (by simp)⟩
end Go.Proofs.YtiocolgkkdfokaaGreatDoor
