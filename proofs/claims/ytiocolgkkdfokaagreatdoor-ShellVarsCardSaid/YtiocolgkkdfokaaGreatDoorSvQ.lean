/-
  Behind some Sets the program's map and the document's list bear the same variables. No condition.
-/
import Derived.Test.YtiocolgkkdfokaaGreatDoorSvV
import Derived.Test.YtiocolgkkdfokaaGreatDoorSvS
import Derived.Test.YtiocolgkkdfokaaGreatDoorSvE
import Derived.Deep.RegionHeld3
namespace Go.Proofs.YtiocolgkkdfokaaGreatDoor
open Go Go.RowKit

/-- behind some Sets: the program's map and the document's list bear the same variables (the document's shell lies at qb) -/
structure Both (w2 : World) (cm qb : Nat) (w : World) (L : List Pr) : Prop where
  map : MapIs w cm L
  grown : w2.grownBy w (some cm)
  list : ∃ (sa : Option Addr) (g cap : Nat), w.cell? ⟨qb, 1, none⟩ = some (.slice sa L.length cap) ∧ (0 < L.length → sa = some ⟨g, 0, none⟩ ∧ g ≠ cm ∧ g ≠ qb) ∧ At w g L
  stat : w.cell? ⟨qb, 2, none⟩ = some (.int .i64 0)
  thaw : w.frozen? ⟨qb, 1, none⟩ = false
  old : w2.heap.size ≤ qb
  ne : qb ≠ cm

theorem at_nil (w : World) (g : Nat) {L : List Pr} (h : ¬ 0 < L.length) : At w g L := fun j p hp => by
  have : L = [] := List.eq_nil_of_length_eq_zero (by omega)
  subst this
  simp at hp

/-- behind the program's Set, ahead of the document's -/
structure Half (w2 : World) (cm qb : Nat) (w : World) (L L' : List Pr) : Prop where
  map : MapIs w cm L'
  grown : w2.grownBy w (some cm)
  list : ∃ (sa : Option Addr) (g cap : Nat), w.cell? ⟨qb, 1, none⟩ = some (.slice sa L.length cap) ∧ (0 < L.length → sa = some ⟨g, 0, none⟩ ∧ g ≠ cm ∧ g ≠ qb) ∧ At w g L
  stat : w.cell? ⟨qb, 2, none⟩ = some (.int .i64 0)
  thaw : w.frozen? ⟨qb, 1, none⟩ = false
  old : w2.heap.size ≤ qb
  ne : qb ≠ cm

theorem Both.half {w2 w w' : World} {cm qb : Nat} {L L' : List Pr} (h : Both w2 cm qb w L) (hm : MapIs w' cm L') (hg : w.grownBy w' (some cm)) : Half w2 cm qb w' L L' := by
  obtain ⟨sa, g, cap, h1, h2, h3⟩ := h.list
  have hq : qb < w.heap.size := World.block_lt_of_cell? _ _ h1
  have hne : some qb ≠ some cm := fun e => h.ne (by cases e; rfl)
  refine ⟨hm, h.grown.andThen hg (fun j hj => .inr hj), ⟨sa, g, cap, hg.cell h1 hne, h2, ?_⟩, hg.cell h.stat hne, (World.frozen?_of_block (hg.block qb hq hne)).trans h.thaw, h.old, h.ne⟩
  by_cases hL : 0 < L.length
  · exact h3.kept hg (fun e => (h2 hL).2.1 (by cases e; rfl))
  · exact at_nil _ _ hL

theorem Half.both {w2 w w' : World} {cm qb : Nat} {L : List Pr} {k v : List UInt8} (h : Half w2 cm qb w L (nxt L k v)) (hs : SetPost w qb 1 L k v w') : Both w2 cm qb w' (nxt L k v) := by
  rcases hs with ⟨hc, rfl⟩ | ⟨hc, w1, u, hg, hr, rfl⟩
  · have hn : nxt L k v = L := if_neg hc
    rw [hn] at h ⊢
    exact ⟨h.map, h.grown, h.list, h.stat, h.thaw, h.old, h.ne⟩
  · have hn : nxt L k v = ins k v false (wo k L) := if_pos hc
    rw [← hn] at hr
    obtain ⟨sa0, g0, cap0, h1, h2, h3⟩ := h.list
    have hq : qb < w.heap.size := World.block_lt_of_cell? _ _ h1
    have hcm : cm < w.heap.size := h.map.lt
    have h1' := hg.cell h1 (by simp)
    have hst := hg.cell h.stat (by simp)
    obtain ⟨sa, g, cap, rfl, r1, r2⟩ := hr.read
    have hM1 : MapIs w1 cm (nxt L k v) := h.map.kept hg (by simp)
    have hset : w1.grownBy (w1.setCell ⟨qb, 1, none⟩ (.slice sa (nxt L k v).length cap)) (some qb) :=
      ⟨rfl, rfl, rfl, by simp, fun i _ hi => Below.heap_setCell _ _ _ _ (fun e => hi (by rw [e]))⟩
    have hneq : some cm ≠ some qb := fun e => h.ne (by cases e; rfl)
    refine ⟨hM1.kept hset hneq, (h.grown.andThen hg (by simp)).andThen hset (fun j hj => .inl (by cases hj; exact h.old)), ⟨sa, g, cap, World.cell?_setCell_same' _ _ _ (by rw [h1']; rfl), fun hL => ?_, ?_⟩, ?_, ?_, h.old, h.ne⟩
    · obtain ⟨e1, e2, e3⟩ := r1 hL
      exact ⟨e1, by omega, by omega⟩
    · by_cases hL : 0 < (nxt L k v).length
      · obtain ⟨e1, e2, e3⟩ := r1 hL
        exact r2.kept hset (fun e => by cases e; omega)
      · exact at_nil _ _ hL
    · rw [World.cell?_setCell_other (h := by simp)]; exact hst
    · rw [World.frozen?_setCell]; exact (World.frozen?_of_block (hg.block qb hq (by simp))).trans h.thaw

theorem Half.set_ok {w2 w : World} {cm qb : Nat} {L : List Pr} {k v : List UInt8} (h : Half w2 cm qb w L (nxt L k v)) (h64 : L.length ≤ 64) (hk : (k.length : Int) ≤ 9223372036854775807) (hv : (v.length : Int) ≤ 9223372036854775807) :
    Calls Tryz.prog 9 #[.pointer (some ⟨qb, 1, none⟩), .string ⟨k.toArray⟩, .string ⟨v.toArray⟩] w fun e w' => e = .returned (.int .i64 (code L k v)) ∧ Both w2 cm qb w' (nxt L k v) ∧ ∃ w1 : World, w.grownBy w1 none ∧ (w' = w ∨ ∃ u, w' = w1.setCell ⟨qb, 1, none⟩ u) := by
  obtain ⟨sa, g, cap, h1, h2, h3⟩ := h.list
  refine (setRef_ok qb 1 g cap sa L k v w h64 hk hv h1 h.thaw (fun hL => (h2 hL).1) h3).mono ?_
  rintro e w' ⟨rfl, hs⟩
  refine ⟨rfl, h.both hs, ?_⟩
  rcases hs with ⟨_, rfl⟩ | ⟨_, w1, u, hg, _, rfl⟩
  · exact ⟨w', World.grownBy.refl _ _, .inl rfl⟩
  · exact ⟨w1, hg, .inr ⟨u, rfl⟩⟩

/-- a variable's cells among what was handed in -/
theorem Both.cell {w2 w W : World} {cm qb : Nat} {L : List Pr} (h : Both w2 cm qb w L) (hb : Below W.heap.size W w2) (hcm : W.heap.size ≤ cm) {a : Addr} {x : Value} (hx : W.cell? a = some x) : w.cell? a = some x := by
  have hlt := World.block_lt_of_cell? _ _ hx
  have h2 : w2.cell? a = some x := (hb.cell hlt).trans hx
  exact h.grown.cell h2 (fun e => by cases e; omega)
end Go.Proofs.YtiocolgkkdfokaaGreatDoor
