/-
  The document's Set. Condition: at most 64 variables, texts of at most 2^63 - 1 bytes.
-/
import Derived.Test.YtiocolgkkdfokaaGreatDoorSvM
import Derived.Sort.Walk0
namespace Go.Proofs.YtiocolgkkdfokaaGreatDoor
open Go.RowKit

/-- what Env.Set leaves -/
def SetPost (w : World) (eb eo : Nat) (L : List Pr) (k v : List UInt8) (w' : World) : Prop :=
  (code L k v ≠ 0 ∧ w' = w) ∨ (code L k v = 0 ∧ ∃ (w1 : World) (u : Value), w.grownBy w1 none ∧ Row w1 w.heap.size u (ins k v false (wo k L)) ∧ w' = w1.setCell ⟨eb, eo, none⟩ u)

theorem less_true {a b : List UInt8} (h : a < b) : Op.bytesLess (ByteArray.toList ⟨a.toArray⟩) (ByteArray.toList ⟨b.toArray⟩) = true := by
  rw [ByteArray.toList_eq, ByteArray.toList_eq, bytesLess_eq]; simpa using h
theorem less_false {a b : List UInt8} (h : ¬ a < b) : Op.bytesLess (ByteArray.toList ⟨a.toArray⟩) (ByteArray.toList ⟨b.toArray⟩) = false := by
  rw [ByteArray.toList_eq, ByteArray.toList_eq, bytesLess_eq]; simpa using h
theorem less_true' {a b : List UInt8} (h : a < b) : Op.bytesLess a b = true := by rw [bytesLess_eq]; simpa using h
theorem less_false' {a b : List UInt8} (h : ¬ a < b) : Op.bytesLess a b = false := by rw [bytesLess_eq]; simpa using h

set_option maxRecDepth 20000 in
set_option maxHeartbeats 8000000 in
theorem setRef_go (eb eo g cap : Nat) (sa : Option Addr) (L : List Pr) (k v : List UInt8) (w : World) (hn : L.length ≤ 64) (hk : (k.length : Int) ≤ 9223372036854775807) (hv : ¬ (4096 : Int) < v.length)
    (hE : w.cell? ⟨eb, eo, none⟩ = some (.slice sa L.length cap)) (hF : w.frozen? ⟨eb, eo, none⟩ = false) (hsa : 0 < L.length → sa = some ⟨g, 0, none⟩) (hA : At w g L) (hB : nameB k = true)
    (hg : (lookL k L).isSome = true ∨ ((lookL k L).isSome = false ∧ ¬ (64 : Int) ≤ L.length)) :
    Calls Tryz.prog 9 #[.pointer (some ⟨eb, eo, none⟩), .string ⟨k.toArray⟩, .string ⟨v.toArray⟩] w fun e w' => e = .returned (.int .i64 0) ∧
      ∃ (w1 : World) (u : Value), w.grownBy w1 none ∧ Row w1 w.heap.size u (ins k v false (wo k L)) ∧ w' = w1.setCell ⟨eb, eo, none⟩ u := by
  have hNm := name_ok k w hk
  rw [hB] at hNm
  have hG := get_ok eb eo g cap sa L k w hn hE hsa hA
  have hW := without_ok eb eo g cap sa L k w hn hE hsa hA
  have hM64 : (wo k L).length ≤ 64 := Nat.le_trans wo_le hn
  have heb : eb < w.heap.size := World.block_lt_of_cell? _ _ hE
  obtain ⟨M, hM⟩ : ∃ M, wo k L = M := ⟨_, rfl⟩
  rw [hM] at hW hM64 ⊢
  obtain ⟨i, hi, hz, hs, hb⟩ := varInfo
  have HE : Hid (w.cell? ⟨eb, eo, none⟩ = some (.slice sa L.length cap)) := hE
  have HF : Hid (w.frozen? ⟨eb, eo, none⟩ = false) := hF
  clear hM hA hsa hB hF
  rcases hg with hg | ⟨hg, h64⟩
  all_goals
    rw [hg] at hG
    clear hg
    go_enter Tryz.func9, Tryz.ntmps9
    go_wp2_with (first
      | (go_at_call 22; refine hNm.mono ?_; rintro e w' ⟨rfl, rfl⟩)
      | (go_at_call 23; refine hG.mono ?_; rintro e w' ⟨rfl, rfl⟩)
      | (go_at_call 24; refine hW.mono ?_; rintro e w1 ⟨v1, rfl, hrow1, hg1⟩; obtain ⟨sa1, g1, cap1, rfl, hsa1, hA1⟩ := hrow1.read; have HG1 : Hid _ := hg1; have HA1 : Hid (At w1 g1 M) := hA1; clear hrow1 hg1 hA1 hE hNm hG hW))
    go_loopw [10, 11, 12] (fun mv bv iv wl => ∃ (j : Nat) (A : List Pr) (inn : Bool) (u : Value), mv = u ∧ bv = .bool inn ∧ iv = .int .i64 j ∧ j ≤ M.length ∧ A.length ≤ j + inn.toNat ∧ Hid (Row wl w1.heap.size u A) ∧ Hid (w1.grownBy wl none) ∧ Hid (A ++ ins k v inn (M.drop j) = ins k v false M)) (fun _ _ iv _ => M.length - (intOf iv).toNat)
    case atStart => exact ⟨0, [], false, _, rfl, rfl, rfl, Nat.zero_le _, by simp, row_nil _ _, World.grownBy.refl _ _, rfl⟩
    case round =>
      obtain ⟨j, A, inn, u, hu, rfl, rfl, hj, hAj, HR, HG, HI⟩ := hrel
      have hu := hu.symm
      subst hu
      have hsz := HG.out.size
      by_cases hlt : j < M.length
      · obtain ⟨rfl, _, _⟩ := hsa1 (by omega)
        obtain ⟨p, hp⟩ : ∃ p, M[j]? = some p := ⟨M[j], List.getElem?_eq_getElem hlt⟩
        obtain ⟨hc0, hc1⟩ := (HA1.out.kept HG.out (by simp)) j p hp
        have hd := drop_at hp
        cases inn with
        | true =>
          simp only [Bool.toNat_true] at hAj
          have HI2 : Hid ((A ++ [p]) ++ ins k v true (M.drop (j + 1)) = ins k v false M) := by show _ = _; rw [← HI.out, hd]; simp [ins]
          have hown : (wr.alloc (.cells #[.string ⟨p.1.toArray⟩, .string ⟨p.2.toArray⟩] 39)).ownsRow w1.heap.size 39 2 u A.length (cellsV A) := World.ownsRow.alloc HR.out _
          clear HI hd hp
          go_wp2_with (at_builtin; refine wpList_append_own _ rfl (.tmp 63) (.tmp 68) 22 rfl w1.heap.size 39 i (.agg #[.string ⟨#[]⟩, .string ⟨#[]⟩]) 2 32 Tryz.underlying22 hi hz hs hb rfl (by omega) u A.length (cellsV A) rfl hown ⟨wr.heap.size, 0, none⟩ 1 1 [.string ⟨p.1.toArray⟩, .string ⟨p.2.toArray⟩] rfl rfl (two_new _ _ _ _) (by simp [Value.oneCell']) (by simp [maxLen]; omega) (by omega) (by simp; omega) ?_; intro v2 w2 hown2 hg2 _)
          have HG2 : Hid (w1.grownBy w2 none) := (HG.out.andThen (row' := none) (World.grownBy_alloc _ _ _) (by simp)).andThen hg2 (fun j hj => .inl (hown.lt j hj).1)
          have HR2 : Hid (Row w2 w1.heap.size v2 (A ++ [p])) := Row.push hown2
          clear hown hown2 hg2 HR HG
          go_roundw
          case rel => exact ⟨j + 1, A ++ [p], true, _, rfl, rfl, by go_num, by omega, by simp; omega, HR2, HG2, HI2⟩
          case measure => simp [intOf]; omega
        | false =>
          simp only [Bool.toNat_false] at hAj
          by_cases hlt2 : k < p.1
          · have HI2 : Hid (((A ++ [(k, v)]) ++ [p]) ++ ins k v true (M.drop (j + 1)) = ins k v false M) := by show _ = _; rw [← HI.out, hd, ins_at hlt2]; simp [ins]
            have hl1 := less_true hlt2
            have hl2 := less_true' hlt2
            have hown : (wr.alloc (.cells #[.string ⟨k.toArray⟩, .string ⟨v.toArray⟩] 39)).ownsRow w1.heap.size 39 2 u A.length (cellsV A) := World.ownsRow.alloc HR.out _
            have hcp0 : (wr.alloc (.cells #[.string ⟨k.toArray⟩, .string ⟨v.toArray⟩] 39)).cell? ⟨g1, j * 2, none⟩ = some (.string ⟨p.1.toArray⟩) := (World.grownBy_alloc wr _ none).cell hc0 (by simp)
            have hcp1 : (wr.alloc (.cells #[.string ⟨k.toArray⟩, .string ⟨v.toArray⟩] 39)).cell? ⟨g1, j * 2 + 1, none⟩ = some (.string ⟨p.2.toArray⟩) := (World.grownBy_alloc wr _ none).cell hc1 (by simp)
            have hgp : ∀ b, (u.ownBlock = some b) → w1.heap.size ≤ b := fun b hb => (hown.lt b hb).1
            have hg1lt : g1 < w1.heap.size := by assumption
            clear HI hd hp hlt2
            go_wp2_with (first
              | (at_builtin; refine wpList_append_own _ rfl (.tmp 57) (.tmp 61) 22 rfl w1.heap.size 39 i (.agg #[.string ⟨#[]⟩, .string ⟨#[]⟩]) 2 32 Tryz.underlying22 hi hz hs hb rfl (by omega) u A.length (cellsV A) rfl hown ⟨wr.heap.size, 0, none⟩ 1 1 [.string ⟨k.toArray⟩, .string ⟨v.toArray⟩] rfl rfl (two_new _ _ _ _) (by simp [Value.oneCell']) (by simp [maxLen]; omega) (by omega) (by simp; omega) ?_; intro v2 w2 hown2 hg2 _; have hown3 := World.ownsRow.alloc hown2 (.cells #[.string ⟨p.1.toArray⟩, .string ⟨p.2.toArray⟩] 39); have hd0 := hg2.cell hcp0 (fun e => by have := hgp _ e.symm; simp only at this; omega); have hd1 := hg2.cell hcp1 (fun e => by have := hgp _ e.symm; simp only at this; omega); have hsz2 := hg2.size)
              | (at_builtin; refine wpList_append_own _ rfl (.tmp 63) (.tmp 68) 22 rfl w1.heap.size 39 i (.agg #[.string ⟨#[]⟩, .string ⟨#[]⟩]) 2 32 Tryz.underlying22 hi hz hs hb rfl (by omega) v2 (A.length + 1) (cellsV A ++ [.string ⟨k.toArray⟩, .string ⟨v.toArray⟩]) rfl hown3 ⟨w2.heap.size, 0, none⟩ 1 1 [.string ⟨p.1.toArray⟩, .string ⟨p.2.toArray⟩] rfl rfl (two_new _ _ _ _) (by simp [Value.oneCell']) (by simp [maxLen]; omega) (by omega) (by simp at hsz2 ⊢; omega) ?_; intro v3 w3 hown4 hg4 _))
            have HGa : Hid (w1.grownBy w2 none) := (HG.out.andThen (row' := none) (World.grownBy_alloc _ _ _) (by simp)).andThen hg2 (fun j hj => .inl (hown.lt j hj).1)
            have HG2 : Hid (w1.grownBy w3 none) := (HGa.out.andThen (row' := none) (World.grownBy_alloc _ _ _) (by simp)).andThen hg4 (fun j hj => .inl (hown3.lt j hj).1)
            have HRa : Row w2 w1.heap.size v2 (A ++ [(k, v)]) := Row.push (p := (k, v)) hown2
            have HR2 : Hid (Row w3 w1.heap.size v3 ((A ++ [(k, v)]) ++ [p])) := Row.push (by rw [List.length_append, cellsV_append]; exact hown4)
            clear hown hown2 hown3 hown4 hg2 hg4 HR HG HGa HRa
            go_roundw
            case rel => exact ⟨j + 1, (A ++ [(k, v)]) ++ [p], true, _, rfl, rfl, by go_num, by omega, by simp; omega, HR2, HG2, HI2⟩
            case measure => simp [intOf]; omega
          · have HI2 : Hid ((A ++ [p]) ++ ins k v false (M.drop (j + 1)) = ins k v false M) := by show _ = _; rw [← HI.out, hd, ins_on hlt2]; simp
            have hl1 := less_false hlt2
            have hl2 := less_false' hlt2
            have hown : (wr.alloc (.cells #[.string ⟨p.1.toArray⟩, .string ⟨p.2.toArray⟩] 39)).ownsRow w1.heap.size 39 2 u A.length (cellsV A) := World.ownsRow.alloc HR.out _
            clear HI hd hp hlt2
            go_wp2_with (at_builtin; refine wpList_append_own _ rfl (.tmp 63) (.tmp 68) 22 rfl w1.heap.size 39 i (.agg #[.string ⟨#[]⟩, .string ⟨#[]⟩]) 2 32 Tryz.underlying22 hi hz hs hb rfl (by omega) u A.length (cellsV A) rfl hown ⟨wr.heap.size, 0, none⟩ 1 1 [.string ⟨p.1.toArray⟩, .string ⟨p.2.toArray⟩] rfl rfl (two_new _ _ _ _) (by simp [Value.oneCell']) (by simp [maxLen]; omega) (by omega) (by simp; omega) ?_; intro v2 w2 hown2 hg2 _)
            have HG2 : Hid (w1.grownBy w2 none) := (HG.out.andThen (row' := none) (World.grownBy_alloc _ _ _) (by simp)).andThen hg2 (fun j hj => .inl (hown.lt j hj).1)
            have HR2 : Hid (Row w2 w1.heap.size v2 (A ++ [p])) := Row.push hown2
            clear hown hown2 hg2 HR HG
            go_roundw
            case rel => exact ⟨j + 1, A ++ [p], false, _, rfl, rfl, by go_num, by omega, by simp; omega, HR2, HG2, HI2⟩
            case measure => simp [intOf]; omega
      · have : j = M.length := by omega
        subst this
        have hE1 := HG1.out.cell HE.out (by simp)
        have hF1 : w1.frozen? ⟨eb, eo, none⟩ = false := (World.frozen?_of_block (HG1.out.block eb heb (by simp))).trans HF.out
        have heb1 : eb < w1.heap.size := Nat.lt_of_lt_of_le heb HG1.out.size
        have hEr := HG.out.cell hE1 (by simp)
        have hFr : wr.frozen? ⟨eb, eo, none⟩ = false := (World.frozen?_of_block (HG.out.block eb heb1 (by simp))).trans hF1
        have hI := HI.out
        rw [drop_end (Nat.le_refl _)] at hI
        clear HI hE1 hF1
        cases inn with
        | true =>
          simp only [Bool.toNat_true] at hAj
          have hres : A = ins k v false M := by rw [← hI]; simp [ins]
          clear hI
          obtain ⟨su, gu, cu, rfl, _, _⟩ := HR.out.read
          go_wp2
          go_ret
          exact ⟨rfl, _, _, HG1.out.andThen HG.out (by simp), hres ▸ Row.weaken HR.out HG1.out.size, rfl⟩
        | false =>
          simp only [Bool.toNat_false] at hAj
          have hres : A ++ [(k, v)] = ins k v false M := hI
          have hown : (wr.alloc (.cells #[.string ⟨k.toArray⟩, .string ⟨v.toArray⟩] 39)).ownsRow w1.heap.size 39 2 u A.length (cellsV A) := World.ownsRow.alloc HR.out _
          have hgp : ∀ b, (u.ownBlock = some b) → w1.heap.size ≤ b := fun b hb => (hown.lt b hb).1
          have hEa : (wr.alloc (.cells #[.string ⟨k.toArray⟩, .string ⟨v.toArray⟩] 39)).cell? ⟨eb, eo, none⟩ = _ := (World.grownBy_alloc wr _ none).cell hEr (by simp)
          have hFa : (wr.alloc (.cells #[.string ⟨k.toArray⟩, .string ⟨v.toArray⟩] 39)).frozen? ⟨eb, eo, none⟩ = false := (World.frozen?_of_block ((World.grownBy_alloc wr _ none).block eb (Nat.lt_of_lt_of_le heb1 hsz) (by simp))).trans hFr
          clear hI
          go_wp2_with (at_builtin; refine wpList_append_own _ rfl (.tmp 72) (.tmp 76) 22 rfl w1.heap.size 39 i (.agg #[.string ⟨#[]⟩, .string ⟨#[]⟩]) 2 32 Tryz.underlying22 hi hz hs hb rfl (by omega) u A.length (cellsV A) rfl hown ⟨wr.heap.size, 0, none⟩ 1 1 [.string ⟨k.toArray⟩, .string ⟨v.toArray⟩] rfl rfl (two_new _ _ _ _) (by simp [Value.oneCell']) (by simp [maxLen]; omega) (by omega) (by simp; omega) ?_; intro v2 w2 hown2 hg2 _; obtain ⟨su, gu, cu, rfl, _, _⟩ := Row.read (L := A ++ [(k, v)]) (Row.push (p := (k, v)) hown2); have hE2 := hg2.cell hEa (fun e => by have := hgp _ e.symm; simp only at this; omega); have hF2 : w2.frozen? ⟨eb, eo, none⟩ = false := (World.frozen?_of_block (hg2.block eb (by simp; omega) (fun e => by have := hgp _ e.symm; omega))).trans hFa)
          have HG2 : w1.grownBy w2 none := (HG.out.andThen (row' := none) (World.grownBy_alloc _ _ _) (by simp)).andThen hg2 (fun j hj => .inl (hown.lt j hj).1)
          have HR2 := Row.push (p := (k, v)) hown2
          go_ret
          exact ⟨rfl, _, HG1.out.andThen HG2 (by simp), _, hres ▸ Row.weaken HR2 HG1.out.size, rfl⟩

set_option maxRecDepth 20000 in
set_option maxHeartbeats 4000000 in
theorem setRef_ok (eb eo g cap : Nat) (sa : Option Addr) (L : List Pr) (k v : List UInt8) (w : World) (hn : L.length ≤ 64) (hk : (k.length : Int) ≤ 9223372036854775807) (hv : (v.length : Int) ≤ 9223372036854775807)
    (hE : w.cell? ⟨eb, eo, none⟩ = some (.slice sa L.length cap)) (hF : w.frozen? ⟨eb, eo, none⟩ = false) (hsa : 0 < L.length → sa = some ⟨g, 0, none⟩) (hA : At w g L) :
    Calls Tryz.prog 9 #[.pointer (some ⟨eb, eo, none⟩), .string ⟨k.toArray⟩, .string ⟨v.toArray⟩] w fun e w' => e = .returned (.int .i64 (code L k v)) ∧ SetPost w eb eo L k v w' := by
  have hNm := name_ok k w hk
  by_cases hbad : nameB k = false ∨ 4096 < v.length
  · have hpost : SetPost w eb eo L k v w := .inl ⟨by rw [code_bad hbad]; decide, rfl⟩
    rw [code_bad hbad]
    have HP : Hid (SetPost w eb eo L k v w) := hpost
    clear hpost
    cases hB : nameB k with
    | false =>
      rw [hB] at hNm
      clear hB hbad hA hsa
      go_enter Tryz.func9, Tryz.ntmps9
      go_wp2_with (go_at_call 22; refine hNm.mono ?_; rintro e w' ⟨rfl, rfl⟩)
      all_goals (go_ret; exact ⟨rfl, HP.out⟩)
    | true =>
      rw [hB] at hNm
      have hLi : (4096 : Int) < v.length := by rcases hbad with h | h; rw [hB] at h; cases h; omega
      clear hB hbad hA hsa
      go_enter Tryz.func9, Tryz.ntmps9
      go_wp2_with (go_at_call 22; refine hNm.mono ?_; rintro e w' ⟨rfl, rfl⟩)
      all_goals (go_ret; exact ⟨rfl, HP.out⟩)
  · have hB : nameB k = true := by cases h : nameB k; exact absurd (.inl h) hbad; rfl
    have hLi : ¬ (4096 : Int) < v.length := fun h => hbad (.inr (by omega))
    by_cases hm : lookL k L = none ∧ 64 ≤ L.length
    · have hpost : SetPost w eb eo L k v w := .inl ⟨by rw [code_many hbad hm]; decide, rfl⟩
      rw [code_many hbad hm]
      have HP : Hid (SetPost w eb eo L k v w) := hpost
      have hG := get_ok eb eo g cap sa L k w hn hE hsa hA
      obtain ⟨hm1, hm2⟩ := hm
      have hm3 : (64 : Int) ≤ L.length := by omega
      rw [hm1] at hG
      rw [hB] at hNm
      clear hpost hB hbad hA hsa hm1 hm2
      go_enter Tryz.func9, Tryz.ntmps9
      go_wp2_with (first
        | (go_at_call 22; refine hNm.mono ?_; rintro e w' ⟨rfl, rfl⟩)
        | (go_at_call 23; refine hG.mono ?_; rintro e w' ⟨rfl, rfl⟩))
      all_goals (go_ret; exact ⟨rfl, HP.out⟩)
    · rw [code_ok hbad hm]
      refine (setRef_go eb eo g cap sa L k v w hn hk hLi hE hF hsa hA hB ?_).mono fun e w' ⟨h1, h2⟩ => ⟨h1, .inr ⟨code_ok hbad hm, h2⟩⟩
      cases hi : (lookL k L).isSome with
      | true => exact .inl rfl
      | false => exact .inr ⟨rfl, fun h => hm ⟨by simpa using hi, by omega⟩⟩
end Go.Proofs.YtiocolgkkdfokaaGreatDoor
