/-
  The document's list of variables: get, without, value. Condition: at most 64 variables.
-/
import Derived.Test.YtiocolgkkdfokaaGreatDoorSvB
import Derived.Maps.Range
import Derived.OwnWalk
import Derived.RowKit
namespace Go.Proofs.YtiocolgkkdfokaaGreatDoor
open Go.RowKit

def cellsV : List Pr → List Value
  | [] => []
  | p :: L => .string ⟨p.1.toArray⟩ :: .string ⟨p.2.toArray⟩ :: cellsV L
theorem cellsV_append : ∀ (A B : List Pr), cellsV (A ++ B) = cellsV A ++ cellsV B
  | [], _ => rfl
  | p :: A, B => by simp [cellsV, cellsV_append A B]
theorem cellsV_get : ∀ {L : List Pr} {j : Nat} {p : Pr}, L[j]? = some p → (cellsV L)[j * 2]? = some (.string ⟨p.1.toArray⟩) ∧ (cellsV L)[j * 2 + 1]? = some (.string ⟨p.2.toArray⟩)
  | [], j, p, h => by simp at h
  | q :: L, 0, p, h => by cases h; exact ⟨rfl, rfl⟩
  | q :: L, j + 1, p, h => by
    have := cellsV_get (L := L) (j := j) (p := p) (by simpa using h)
    rw [show (j + 1) * 2 = j * 2 + 1 + 1 by omega, cellsV]
    simpa using this

theorem add_at (c o n : Nat) : (⟨c, o, none⟩ : Addr).add n = ⟨c, o + n, none⟩ := by
  unfold Addr.add; split
  · subst_vars; rfl
  · rfl

/-- v is a slice of its own of these variables -/
def Row (w : World) (base : Nat) (v : Value) (L : List Pr) : Prop := w.ownsRow base 39 2 v L.length (cellsV L)

/-- the cells of a slice of these variables -/
def At (w : World) (g : Nat) (L : List Pr) : Prop := ∀ j p, L[j]? = some p → w.cell? ⟨g, j * 2, none⟩ = some (.string ⟨p.1.toArray⟩) ∧ w.cell? ⟨g, j * 2 + 1, none⟩ = some (.string ⟨p.2.toArray⟩)
theorem At.kept {w w' : World} {g : Nat} {L : List Pr} {row : Option Nat} (h : At w g L) (hg : w.grownBy w' row) (hne : some g ≠ row) : At w' g L := fun j p hp => by
  obtain ⟨h0, h1⟩ := h j p hp
  exact ⟨hg.cell h0 hne, hg.cell h1 hne⟩

theorem Row.read {w : World} {base : Nat} {v : Value} {L : List Pr} (h : Row w base v L) : ∃ (sa : Option Addr) (g cap : Nat), v = .slice sa L.length cap ∧ (0 < L.length → sa = some ⟨g, 0, none⟩ ∧ base ≤ g ∧ g < w.heap.size) ∧ At w g L := by
  have hc : ∀ {g : Nat}, v.ownBlock = some g → ∀ j u, (cellsV L)[j]? = some u → w.cell? ((⟨g, 0, none⟩ : Addr).add j) = some u := fun hg => World.ownsRow.cells h hg
  have hlt := World.ownsRow.lt h
  obtain ⟨_, ⟨rfl, h0⟩ | ⟨g, cap, cur, rfl, hb, hh, _⟩⟩ := h
  · have : L = [] := List.eq_nil_of_length_eq_zero h0
    subst this
    exact ⟨none, 0, 0, rfl, fun h => absurd h (by simp), fun j p hp => by simp at hp⟩
  · refine ⟨_, g, cap, rfl, fun _ => ⟨rfl, hlt g rfl⟩, fun j p hp => ?_⟩
    obtain ⟨h1, h2⟩ := cellsV_get hp
    have h1 := hc rfl _ _ h1
    have h2 := hc rfl _ _ h2
    simp only [add_at, Nat.zero_add] at h1 h2
    exact ⟨h1, h2⟩
theorem Row.weaken {w : World} {base base' : Nat} {v : Value} {L : List Pr} (h : Row w base v L) (hb : base' ≤ base) : Row w base' v L := by
  obtain ⟨h1, h2 | ⟨g, cap, cur, h3, h4, h5⟩⟩ := h
  · exact ⟨h1, .inl h2⟩
  · exact ⟨h1, .inr ⟨g, cap, cur, h3, Nat.le_trans hb h4, h5⟩⟩
theorem Row.kept {w w' : World} {base : Nat} {v : Value} {L : List Pr} (h : Row w base v L) (hg : w.grownBy w' none) : Row w' base v L := by
  refine World.ownsRow.kept h hg ?_
  cases hv : v.ownBlock with
  | none => exact .inl rfl
  | some k => exact .inr (by simp)
theorem Row.push {w : World} {base : Nat} {v : Value} {L : List Pr} {p : Pr} (h : w.ownsRow base 39 2 v (L.length + 1) (cellsV L ++ [.string ⟨p.1.toArray⟩, .string ⟨p.2.toArray⟩])) : Row w base v (L ++ [p]) := by
  unfold Row
  rw [List.length_append, cellsV_append]
  exact h
theorem row_nil (w : World) (base : Nat) : Row w base (.slice none 0 0) [] := World.ownsRow_nil _ _ _ _

theorem two_new (w : World) (x y : Value) (t : TypeId) : ∀ j u, [x, y][j]? = some u → (w.alloc (.cells #[x, y] t)).cell? ((⟨w.heap.size, 0, none⟩ : Addr).add j) = some u := by
  intro j u hj
  match j, hj with
  | 0, hj => simp at hj; subst hj; simp [Addr.add]
  | 1, hj => simp at hj; subst hj; simp [Addr.add]
  | j + 2, hj => simp at hj

theorem varInfo : ∃ i : TypeInfo, Tryz.prog.info? 39 = some i ∧ i.zero = some (.agg #[.string ⟨#[]⟩, .string ⟨#[]⟩]) ∧ i.size = 2 ∧ i.bytes = 32 := by
  have h : (Tryz.prog.info? 39).map (fun i => (i.size, i.bytes)) = some (2, 32) := by kernel_rfl
  have hz : (Tryz.prog.info? 39).bind (·.zero) = some (.agg #[.string ⟨#[]⟩, .string ⟨#[]⟩]) := by kernel_rfl
  obtain ⟨i, hi, h1⟩ := Option.map_eq_some_iff.1 h
  rw [hi] at hz
  simp only [Prod.mk.injEq] at h1
  exact ⟨i, hi, hz, h1.1, h1.2⟩

theorem drop_at {L : List Pr} {k : Nat} {p : Pr} (h : L[k]? = some p) : L.drop k = p :: L.drop (k + 1) := by
  obtain ⟨hk, rfl⟩ := List.getElem?_eq_some_iff.1 h
  exact List.drop_eq_getElem_cons hk
theorem drop_end {L : List Pr} {k : Nat} (h : L.length ≤ k) : L.drop k = [] := List.drop_eq_nil_of_le h
theorem neq {a b : List UInt8} (h : ¬ a = b) : (a == b) = false := by simpa using h

theorem name_ok (l : List UInt8) (w : World) (hl : (l.length : Int) ≤ 9223372036854775807) :
    Calls Tryz.prog 22 #[.string ⟨l.toArray⟩] w fun e w' => e = .returned (.bool (nameB l)) ∧ w' = w := by
  by_cases hq : l = [63]
  · subst hq
    rw [nameB_mark]
    go_enter Tryz.func22, Tryz.ntmps22
    go_wp2
    all_goals (go_ret; exact ⟨rfl, rfl⟩)
  · have hN := isName_ok l w hl (neq hq)
    have hq1 := neq hq
    go_enter Tryz.func22, Tryz.ntmps22
    go_wp2_with (go_at_call 47; refine hN.mono ?_; rintro e w' ⟨rfl, rfl⟩)
    all_goals (go_ret; exact ⟨rfl, rfl⟩)

set_option maxHeartbeats 4000000 in
theorem get_ok (eb eo g cap : Nat) (sa : Option Addr) (L : List Pr) (name : List UInt8) (w : World) (hn : L.length ≤ 64) (hE : w.cell? ⟨eb, eo, none⟩ = some (.slice sa L.length cap)) (hsa : 0 < L.length → sa = some ⟨g, 0, none⟩) (hA : At w g L) :
    Calls Tryz.prog 23 #[.pointer (some ⟨eb, eo, none⟩), .string ⟨name.toArray⟩] w fun e w' => e = .returned (.tuple #[.string ⟨((lookL name L).getD []).toArray⟩, .bool (lookL name L).isSome]) ∧ w' = w := by
  have HA : Hid (At w g L) := hA
  clear hA
  obtain ⟨r, hr⟩ : ∃ r, lookL name L = r := ⟨_, rfl⟩
  rw [hr]
  have HR : Hid (lookL name L = r) := hr
  clear hr
  go_enter Tryz.func23, Tryz.ntmps23
  go_wp2
  go_loop [6] (fun i => ∃ k : Nat, k ≤ L.length ∧ i = .int .i64 k ∧ Hid (lookL name (L.drop k) = r)) (fun i => L.length - (intOf i).toNat)
  case atStart => exact ⟨0, Nat.zero_le _, rfl, HR⟩
  case round =>
    obtain ⟨k, hk, rfl, HP⟩ := hrel
    by_cases hlt : k < L.length
    · obtain rfl := hsa (by omega)
      obtain ⟨p, hp⟩ : ∃ p, L[k]? = some p := ⟨L[k], List.getElem?_eq_getElem hlt⟩
      obtain ⟨hc0, hc1⟩ := HA.out k p hp
      have hd := drop_at hp
      by_cases he : p.1 = name
      · have hres : some p.2 = r := by rw [← HP.out, hd, lookL_hit he]
        clear HP HR hd hp
        subst hres
        subst he
        go_wp2
        go_ret2
        exact ⟨rfl, rfl⟩
      · have HP2 : Hid (lookL name (L.drop (k + 1)) = r) := by show _ = _; rw [← HP.out, hd, lookL_miss he]
        have hq := neq he
        clear HP hd hp
        go_wp2
        exact ⟨⟨k + 1, by omega, by go_num, HP2⟩, by simp [intOf]; omega⟩
    · have hres : none = r := by rw [← HP.out, drop_end (by omega)]; rfl
      have : k = L.length := by omega
      subst this
      clear HP HR
      subst hres
      go_wp2
      go_ret2
      exact ⟨rfl, rfl⟩

set_option maxHeartbeats 4000000 in
theorem without_ok (eb eo g cap : Nat) (sa : Option Addr) (L : List Pr) (name : List UInt8) (w : World) (hn : L.length ≤ 64) (hE : w.cell? ⟨eb, eo, none⟩ = some (.slice sa L.length cap)) (hsa : 0 < L.length → sa = some ⟨g, 0, none⟩) (hA : At w g L) :
    Calls Tryz.prog 24 #[.pointer (some ⟨eb, eo, none⟩), .string ⟨name.toArray⟩] w fun e w' => ∃ v', e = .returned v' ∧ Row w' w.heap.size v' (wo name L) ∧ w.grownBy w' none := by
  obtain ⟨i, hi, hz, hs, hb⟩ := varInfo
  have HA : Hid (At w g L) := hA
  have HE : Hid (w.cell? ⟨eb, eo, none⟩ = some (.slice sa L.length cap)) := hE
  clear hA hE
  go_enter Tryz.func24, Tryz.ntmps24
  go_wp2
  go_loopw [5, 6] (fun lv iv wl => ∃ (k : Nat) (A : List Pr) (v : Value), lv = v ∧ k ≤ L.length ∧ iv = .int .i64 k ∧ A.length ≤ k ∧ Hid (Row wl w.heap.size v A) ∧ Hid (w.grownBy wl none) ∧ Hid (A ++ wo name (L.drop k) = wo name L)) (fun _ iv _ => L.length - (intOf iv).toNat)
  case atStart => exact ⟨0, [], _, rfl, Nat.zero_le _, rfl, Nat.le_refl _, row_nil _ _, World.grownBy.refl _ _, rfl⟩
  case round =>
    obtain ⟨k, A, v, hv, hk, rfl, hAk, HR, HG, HW⟩ := hrel
    have hv := hv.symm
    subst hv
    have hE := HG.out.cell HE.out (by simp)
    by_cases hlt : k < L.length
    · obtain rfl := hsa (by omega)
      obtain ⟨p, hp⟩ : ∃ p, L[k]? = some p := ⟨L[k], List.getElem?_eq_getElem hlt⟩
      obtain ⟨hc0, hc1⟩ := (HA.out.kept HG.out (by simp)) k p hp
      have hd := drop_at hp
      by_cases he : p.1 = name
      · have HW2 : Hid (A ++ wo name (L.drop (k + 1)) = wo name L) := by show _ = _; rw [← HW.out, hd, wo_hit he]
        clear HW hd hp
        subst he
        go_wp2
        go_roundw
        case rel => exact ⟨k + 1, A, _, rfl, by omega, by go_num, by omega, HR, HG, HW2⟩
        case measure => simp [intOf]; omega
      · have HW2 : Hid ((A ++ [p]) ++ wo name (L.drop (k + 1)) = wo name L) := by show _ = _; rw [← HW.out, hd, wo_miss he]; simp
        have hq := neq he
        have hown : (wr.alloc (.cells #[.string ⟨p.1.toArray⟩, .string ⟨p.2.toArray⟩] 39)).ownsRow w.heap.size 39 2 v A.length (cellsV A) := World.ownsRow.alloc HR.out _
        have hsz := HG.out.size
        clear HW hd hp
        go_wp2_with (at_builtin; refine wpList_append_own _ rfl (.tmp 26) (.tmp 34) 22 rfl w.heap.size 39 i (.agg #[.string ⟨#[]⟩, .string ⟨#[]⟩]) 2 32 Tryz.underlying22 hi hz hs hb rfl (by omega) v A.length (cellsV A) rfl hown ⟨wr.heap.size, 0, none⟩ 1 1 [.string ⟨p.1.toArray⟩, .string ⟨p.2.toArray⟩] rfl rfl (two_new _ _ _ _) (by simp [Value.oneCell']) (by simp [maxLen]; omega) (by omega) (by simp; omega) ?_; intro v2 w2 hown2 hg2 _)
        have HG2 : Hid (w.grownBy w2 none) := (HG.out.andThen (row' := none) (World.grownBy_alloc _ _ _) (by simp)).andThen hg2 (fun j hj => .inl (hown.lt j hj).1)
        have HR2 : Hid (Row w2 w.heap.size v2 (A ++ [p])) := Row.push hown2
        clear hown hown2 hg2 HR HG
        go_roundw
        case rel => exact ⟨k + 1, A ++ [p], _, rfl, by omega, by go_num, by simp; omega, HR2, HG2, HW2⟩
        case measure => simp [intOf]; omega
    · have hres : A = wo name L := by rw [← HW.out, drop_end (by omega)]; simp [wo]
      have : k = L.length := by omega
      subst this
      subst hres
      clear HW
      go_wp2
      go_ret
      exact ⟨_, rfl, HR.out, HG.out⟩

set_option maxHeartbeats 4000000 in
theorem value_ok (qb g cap : Nat) (sa : Option Addr) (L : List Pr) (name : List UInt8) (w : World) (hn : L.length ≤ 64) (hE : w.cell? ⟨qb, 1, none⟩ = some (.slice sa L.length cap)) (hsa : 0 < L.length → sa = some ⟨g, 0, none⟩) (hA : At w g L) :
    Calls Tryz.prog 11 #[.pointer (some ⟨qb, 0, none⟩), .string ⟨name.toArray⟩] w fun e w' => e = .returned (.tuple #[.string ⟨((lookL name L).getD []).toArray⟩, .bool (lookL name L).isSome]) ∧ w' = w := by
  have HA : Hid (At w g L) := hA
  clear hA
  obtain ⟨r, hr⟩ : ∃ r, lookL name L = r := ⟨_, rfl⟩
  rw [hr]
  have HR : Hid (lookL name L = r) := hr
  clear hr
  go_enter Tryz.func11, Tryz.ntmps11
  go_wp2
  go_loop [6] (fun i => ∃ k : Nat, k ≤ L.length ∧ i = .int .i64 k ∧ Hid (lookL name (L.drop k) = r)) (fun i => L.length - (intOf i).toNat)
  case atStart => exact ⟨0, Nat.zero_le _, rfl, HR⟩
  case round =>
    obtain ⟨k, hk, rfl, HP⟩ := hrel
    by_cases hlt : k < L.length
    · obtain rfl := hsa (by omega)
      obtain ⟨p, hp⟩ : ∃ p, L[k]? = some p := ⟨L[k], List.getElem?_eq_getElem hlt⟩
      obtain ⟨hc0, hc1⟩ := HA.out k p hp
      have hd := drop_at hp
      by_cases he : p.1 = name
      · have hres : some p.2 = r := by rw [← HP.out, hd, lookL_hit he]
        clear HP HR hd hp
        subst hres
        subst he
        go_wp2
        go_ret2
        exact ⟨rfl, rfl⟩
      · have HP2 : Hid (lookL name (L.drop (k + 1)) = r) := by show _ = _; rw [← HP.out, hd, lookL_miss he]
        have hq := neq he
        clear HP hd hp
        go_wp2
        exact ⟨⟨k + 1, by omega, by go_num, HP2⟩, by simp [intOf]; omega⟩
    · have hres : none = r := by rw [← HP.out, drop_end (by omega)]; rfl
      have : k = L.length := by omega
      subst this
      clear HP HR
      subst hres
      go_wp2
      go_ret2
      exact ⟨rfl, rfl⟩
end Go.Proofs.YtiocolgkkdfokaaGreatDoor
