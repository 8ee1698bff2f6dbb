/-
  What slices.Sorted gives at the iterator of maps.Keys, for a map of at most one entry. No condition.
-/
import Derived.Test.YtiocolgkkdfokaaGreatDoorIter
import Derived.Test.YtiocolgkkdfokaaGreatDoorEvE
import Derived.Shelf.SlIter.Nil
import Derived.Shelf.SortM.Plain
import Derived.Shelf.SortM.SortNone
namespace Go.Proofs.YtiocolgkkdfokaaGreatDoor
open Go Go.Ab Go.RowKit Go.Maps Go.Sort Go.Shelf Go.WideElems

theorem sorts46 (m : Nat) : AnyZ.SortsIn Tryz.prog Tryz.sorted38_ren Fence.wide m :=
  ⟨fun blk off cap ss W hH hblk hsz => callsIn_wide.2 (AnyM.slices_Sort_string Tryz.sort62 blk off cap ss W hH hblk hsz),
   fun p cap W => callsIn_wide.2 (AnyM.slices_Sort_string_none Tryz.sort62 p cap W)⟩

theorem sortedK : SortedK Tryz.prog 38 233 9 := by
  intro w Bm b es clock hm hb hsz hk
  have hlen : es.toList.length ≤ 1 := by simpa using hsz
  have Ft : Fit (H := Unit) Tryz.prog 9 (fun _ => some (.nil, [])) es clock := by
    refine ⟨by simp [maxLen]; omega, ⟨fun x hx => (hk x hx).2, ?_, ?_⟩, fun x hx => ?_⟩
    · match es.toList, hlen with
      | [], _ => exact List.nodup_nil
      | [x], _ => simp
    · match es.toList, hlen with
      | [], _ => exact List.nodup_nil
      | [x], _ => simp
    · obtain ⟨⟨s, hs, hl⟩, _⟩ := hk x hx
      exact ⟨(.string s.data.toList, .nil), by simp [WideElems.rd, hs, WideMaps.keyOf_string_mk Tryz.underlying9 hl]⟩
  have hBm : Bm < w.heap.size := by
    unfold World.cell? at hm
    split at hm
    · rename_i hh; exact (Array.getElem?_eq_some_iff.1 hh).1
    · cases hm
  have hown : w.ownsMap Tryz.prog 9 (fun _ => some (.nil, [])) b 1 (.map ((es.toList.map (rg (H := Unit) Tryz.prog 9 (fun _ => some (.nil, [])))).foldr DataW.insert [])) := ⟨es, clock, hb, Ft, hsz, rfl⟩
  have hseq := AnyZ.keys_gives (ρ := Tryz.keys200_ren) { Tryz.keys200 with } Fence.wide 2 trivial rfl (by omega) Bm b 1 _ w hBm hm hown
  have hD : Maps.size (.map ((es.toList.map (rg (H := Unit) Tryz.prog 9 (fun _ => some (.nil, [])))).foldr DataW.insert []) : DataW Unit) ≤ 1 := by
    match es.toList, hlen with
    | [], _ => simp [Maps.size]
    | [x], _ => simp [Maps.size, DataW.insert]
  have h := AnyZ.sorted_in Tryz.sorted38 Fence.wide 5 trivial trivial trivial trivial rfl (by omega) (sorts46 _) (enters_of Tryz.func62 (by kernel_rfl) rfl) 233 #[.pointer (some ⟨Bm, 0, none⟩)] trivial (enters_of Tryz.func233 (by kernel_rfl) rfl)
    _ _ (Nat.le_trans hD (by decide)) (by omega) w hseq
  refine ((callsIn_wide (n := 5)).1 h).mono ?_
  rintro e w' ⟨v, ss, rfl, hS, hrow, hnil, hb'⟩
  have hss : ss.length = es.size ∧ (ss.mergeSort (fun x y => decide (x ≤ y))).map encStr = es.toList.map (·.key) := by
    have hS' : ss.Perm (strKeys (.map ((es.toList.map (rg (H := Unit) Tryz.prog 9 (fun _ => some (.nil, [])))).foldr DataW.insert []) : DataW Unit)) := hS
    have hsize : es.size = es.toList.length := by simp
    rw [hsize]
    generalize hes : es.toList = l at hS' hlen hk
    match l, hlen with
    | [], _ =>
      have : ss = [] := by simpa [strKeys] using hS'
      subst this
      simp
    | [x], _ =>
      obtain ⟨⟨s, hs, hl⟩, _⟩ := hk x (by simp)
      have hrg : rg (H := Unit) Tryz.prog 9 (fun _ => some (.nil, [])) x = (.string s.data.toList, .nil) := rg_of (by simp [WideElems.rd, hs, WideMaps.keyOf_string_mk Tryz.underlying9 hl])
      have : ss = [s.data.toList] := by
        have := hS'
        simp [strKeys, DataW.insert, hrg, strOf] at this
        exact this
      subst this
      simp [encStr, hs]
  refine ⟨v, rfl, ?_, ?_, hb'⟩
  · rw [← hss.1, ← hss.2]; exact hrow
  · rw [hnil, ← hss.1]; exact List.length_eq_zero_iff.symm
end Go.Proofs.YtiocolgkkdfokaaGreatDoor
