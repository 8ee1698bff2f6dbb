/-
  Lists of variables, names rising, against the datum of a map. No condition.
-/
import Derived.Maps.OwnSet
import Derived.Sort.KeysCollected
namespace Go.Proofs.YtiocolgkkdfokaaGreatDoor
open Go.Maps Go.ChangeMaps Go.WideShapes

/-- a variable: its name and its value -/
abbrev Pr := List UInt8 × List UInt8

def lookL (k : List UInt8) : List Pr → Option (List UInt8)
  | [] => none
  | p :: L => if p.1 = k then some p.2 else lookL k L
def wo (k : List UInt8) : List Pr → List Pr
  | [] => []
  | p :: L => if p.1 = k then wo k L else p :: wo k L
def ins (k v : List UInt8) : Bool → List Pr → List Pr
  | true, L => L
  | false, [] => [(k, v)]
  | false, p :: L => if k < p.1 then (k, v) :: p :: L else p :: ins k v false L

theorem lookL_hit {k : List UInt8} {p : Pr} {L : List Pr} (h : p.1 = k) : lookL k (p :: L) = some p.2 := if_pos h
theorem lookL_miss {k : List UInt8} {p : Pr} {L : List Pr} (h : ¬ p.1 = k) : lookL k (p :: L) = lookL k L := if_neg h
theorem wo_hit {k : List UInt8} {p : Pr} {L : List Pr} (h : p.1 = k) : wo k (p :: L) = wo k L := if_pos h
theorem wo_miss {k : List UInt8} {p : Pr} {L : List Pr} (h : ¬ p.1 = k) : wo k (p :: L) = p :: wo k L := if_neg h
theorem ins_at {k v : List UInt8} {p : Pr} {L : List Pr} (h : k < p.1) : ins k v false (p :: L) = (k, v) :: p :: L := if_pos h
theorem ins_on {k v : List UInt8} {p : Pr} {L : List Pr} (h : ¬ k < p.1) : ins k v false (p :: L) = p :: ins k v false L := if_neg h

theorem mem_wo {k : List UInt8} {q : Pr} : ∀ {L : List Pr}, q ∈ wo k L → q ∈ L ∧ q.1 ≠ k
  | [], h => by cases h
  | p :: L, h => by
    by_cases hp : p.1 = k
    · rw [wo_hit hp] at h
      have := mem_wo h
      exact ⟨List.mem_cons_of_mem _ this.1, this.2⟩
    · rw [wo_miss hp] at h
      rcases List.mem_cons.1 h with rfl | h
      · exact ⟨List.mem_cons_self, hp⟩
      · have := mem_wo h
        exact ⟨List.mem_cons_of_mem _ this.1, this.2⟩
theorem mem_ins {k v : List UInt8} {q : Pr} : ∀ {L : List Pr}, q ∈ ins k v false L → q = (k, v) ∨ q ∈ L
  | [], h => by simpa [ins] using h
  | p :: L, h => by
    by_cases hp : k < p.1
    · rw [ins_at hp] at h
      exact List.mem_cons.1 h
    · rw [ins_on hp] at h
      rcases List.mem_cons.1 h with rfl | h
      · exact .inr List.mem_cons_self
      · exact (mem_ins h).imp id (List.mem_cons_of_mem _)
theorem ins_perm {k v : List UInt8} : ∀ {L : List Pr}, (ins k v false L).Perm ((k, v) :: L)
  | [] => .refl _
  | p :: L => by
    by_cases hp : k < p.1
    · rw [ins_at hp]
    · rw [ins_on hp]
      exact ((ins_perm (L := L)).cons p).trans (List.Perm.swap _ _ _)

def Rises (L : List Pr) : Prop := L.Pairwise (fun a b => a.1 < b.1)

theorem lt_of {a b : List UInt8} (h : ¬ a < b) (hne : b ≠ a) : b < a := by
  have h1 : b ≤ a := List.not_lt.1 h
  by_cases h2 : b < a
  · exact h2
  · exact absurd (List.le_antisymm h1 (List.not_lt.1 h2)) hne

theorem wo_rises {k : List UInt8} : ∀ {L : List Pr}, Rises L → Rises (wo k L)
  | [], _ => List.Pairwise.nil
  | p :: L, h => by
    have h := List.pairwise_cons.1 h
    by_cases hp : p.1 = k
    · rw [wo_hit hp]; exact wo_rises h.2
    · rw [wo_miss hp]
      exact List.pairwise_cons.2 ⟨fun q hq => h.1 q (mem_wo hq).1, wo_rises h.2⟩
theorem ins_rises {k v : List UInt8} : ∀ {L : List Pr}, Rises L → (∀ q ∈ L, q.1 ≠ k) → Rises (ins k v false L)
  | [], _, _ => List.pairwise_cons.2 ⟨(fun q hq => by cases hq), List.Pairwise.nil⟩
  | p :: L, h, hk => by
    have h' := List.pairwise_cons.1 h
    by_cases hp : k < p.1
    · rw [ins_at hp]
      refine List.pairwise_cons.2 ⟨fun q hq => ?_, h⟩
      rcases List.mem_cons.1 hq with rfl | hq
      · exact hp
      · exact List.lt_trans hp (h'.1 q hq)
    · rw [ins_on hp]
      refine List.pairwise_cons.2 ⟨fun q hq => ?_, ins_rises h'.2 fun q hq => hk q (List.mem_cons_of_mem _ hq)⟩
      rcases mem_ins hq with rfl | hq
      · exact lt_of hp (hk p List.mem_cons_self)
      · exact h'.1 q hq

theorem lookL_none {k : List UInt8} : ∀ {L : List Pr}, lookL k L = none → ∀ q ∈ L, q.1 ≠ k
  | [], _, q, hq => by cases hq
  | p :: L, h, q, hq => by
    by_cases hp : p.1 = k
    · rw [lookL_hit hp] at h; cases h
    · rw [lookL_miss hp] at h
      rcases List.mem_cons.1 hq with rfl | hq
      · exact hp
      · exact lookL_none h q hq
theorem lookL_mem {k v : List UInt8} : ∀ {L : List Pr}, lookL k L = some v → (k, v) ∈ L
  | [], h => by cases h
  | p :: L, h => by
    by_cases hp : p.1 = k
    · rw [lookL_hit hp] at h
      cases h
      rw [← hp]
      exact List.mem_cons_self
    · rw [lookL_miss hp] at h
      exact List.mem_cons_of_mem _ (lookL_mem h)
theorem lookL_of {k : List UInt8} {q : Pr} : ∀ {L : List Pr}, Rises L → q ∈ L → q.1 = k → lookL k L = some q.2
  | [], _, h, _ => by cases h
  | p :: L, hr, h, hk => by
    have h' := List.pairwise_cons.1 hr
    rcases List.mem_cons.1 h with rfl | h
    · exact lookL_hit hk
    · have := h'.1 q h
      rw [lookL_miss (fun e => by rw [e, ← hk] at this; exact List.lt_irrefl _ this)]
      exact lookL_of h'.2 h hk

theorem wo_none {k : List UInt8} : ∀ {L : List Pr}, lookL k L = none → wo k L = L
  | [], _ => rfl
  | p :: L, h => by
    by_cases hp : p.1 = k
    · rw [lookL_hit hp] at h; cases h
    · rw [lookL_miss hp] at h
      rw [wo_miss hp, wo_none h]
theorem wo_le {k : List UInt8} : ∀ {L : List Pr}, (wo k L).length ≤ L.length
  | [] => Nat.le_refl _
  | p :: L => by
    by_cases hp : p.1 = k
    · rw [wo_hit hp]; exact Nat.le_succ_of_le wo_le
    · rw [wo_miss hp]; exact Nat.succ_le_succ wo_le
theorem wo_lt {k v : List UInt8} : ∀ {L : List Pr}, lookL k L = some v → (wo k L).length < L.length
  | [], h => by cases h
  | p :: L, h => by
    by_cases hp : p.1 = k
    · rw [wo_hit hp]; exact Nat.lt_succ_of_le wo_le
    · rw [lookL_miss hp] at h
      rw [wo_miss hp]; exact Nat.succ_lt_succ (wo_lt h)
theorem ins_length {k v : List UInt8} {L : List Pr} : (ins k v false L).length = L.length + 1 := by
  rw [ins_perm.length_eq]; rfl

/-! the datum of a map against the list -/
def cv (p : Pr) : Lit × DataW Unit := (.string p.1, .lit (.string p.2))
def Ties (D : DataW Unit) (L : List Pr) : Prop := (∃ es, D = .map es ∧ es.Perm (L.map cv)) ∧ Rises L

theorem ties_nil : Ties (.map []) [] := ⟨⟨[], rfl, .refl _⟩, List.Pairwise.nil⟩
theorem Ties.size {D : DataW Unit} {L : List Pr} (h : Ties D L) : Maps.size D = L.length := by
  obtain ⟨⟨es, rfl, hp⟩, _⟩ := h
  rw [size_eq, hp.length_eq, List.length_map]
theorem Ties.has {D : DataW Unit} {L : List Pr} (h : Ties D L) (k : List UInt8) : Maps.has D (.string k) = (lookL k L).isSome := by
  obtain ⟨⟨es, rfl, hp⟩, hr⟩ := h
  rw [has_eq, Bool.eq_iff_iff, List.any_eq_true]
  constructor
  · rintro ⟨x, hx, hs⟩
    obtain ⟨q, hq, rfl⟩ := List.mem_map.1 (hp.mem_iff.1 hx)
    have : q.1 = k := by simpa [cv, Lit.sameKey] using hs
    rw [lookL_of hr hq this]; rfl
  · intro h
    obtain ⟨v, hv⟩ := Option.isSome_iff_exists.1 h
    exact ⟨cv (k, v), hp.mem_iff.2 (List.mem_map.2 ⟨_, lookL_mem hv, rfl⟩), by simp [cv, Lit.sameKey]⟩
theorem Ties.at {D : DataW Unit} {L : List Pr} (h : Ties D L) (k : List UInt8) (z : List UInt8) : D.atKey (.string k) (.lit (.string z)) = .lit (.string ((lookL k L).getD z)) := by
  obtain ⟨⟨es, rfl, hp⟩, hr⟩ := h
  unfold DataW.atKey
  simp only
  cases hf : es.find? (fun p => p.1.sameKey (.string k)) with
  | none =>
    have : lookL k L = none := by
      cases hl : lookL k L with
      | none => rfl
      | some v =>
        have := List.find?_eq_none.1 hf (cv (k, v)) (hp.mem_iff.2 (List.mem_map.2 ⟨_, lookL_mem hl, rfl⟩))
        simp [cv, Lit.sameKey] at this
    rw [this]; simp only [Option.getD_none]
  | some x =>
    have hx := List.mem_of_find?_eq_some hf
    have hs := List.find?_some hf
    obtain ⟨q, hq, rfl⟩ := List.mem_map.1 (hp.mem_iff.1 hx)
    have : q.1 = k := by simpa [cv, Lit.sameKey] using hs
    rw [lookL_of hr hq this]; simp only [Option.getD_some, cv]
theorem wo_map (k : List UInt8) : ∀ L : List Pr, (wo k L).map cv = (L.map cv).filter (fun p => !p.1.sameKey (.string k))
  | [] => rfl
  | p :: L => by
    by_cases hp : p.1 = k
    · rw [wo_hit hp, wo_map k L]; simp [cv, Lit.sameKey, hp]
    · rw [wo_miss hp, List.map_cons, wo_map k L]; simp [cv, Lit.sameKey, hp]
theorem Ties.put {D : DataW Unit} {L : List Pr} (h : Ties D L) (k v : List UInt8) : Ties (D.put (.string k) (.lit (.string v))) (ins k v false (wo k L)) := by
  obtain ⟨⟨es, rfl, hp⟩, hr⟩ := h
  refine ⟨⟨_, rfl, ?_⟩, ins_rises (wo_rises hr) fun q hq => (mem_wo hq).2⟩
  refine (insert_perm _ _).trans ?_
  refine List.Perm.trans ?_ (ins_perm.map cv).symm
  rw [List.map_cons, wo_map]
  exact (hp.filter _).cons _
theorem Ties.keys {D : DataW Unit} {L : List Pr} (h : Ties D L) {ss : List (List UInt8)} (hs : ss.Perm (strKeys D)) : ss.mergeSort leB = L.map (·.1) := by
  obtain ⟨⟨es, rfl, hp⟩, hr⟩ := h
  have h1 : ss.Perm (L.map (·.1)) := by
    refine hs.trans ((hp.map _).trans ?_)
    rw [List.map_map]
    exact .refl _
  rw [mergeSort_of_perm h1]
  refine List.mergeSort_of_pairwise ?_
  rw [List.pairwise_map]
  exact hr.imp fun {a b} hab => by simpa using List.le_of_lt hab

/-! what a Set answers, and what it leaves -/
def okAt (j c : Nat) : Prop := c = 95 ∨ (65 ≤ c ∧ c ≤ 90) ∨ (97 ≤ c ∧ c ≤ 122) ∨ (j ≠ 0 ∧ 48 ≤ c ∧ c ≤ 57)
def NameP (l : List UInt8) : Prop := l ≠ [] ∧ ∀ j c, l[j]? = some c → okAt j c.toNat
noncomputable def nameB (l : List UInt8) : Bool := @decide (NameP l) (Classical.propDecidable _)
theorem nameB_true {l : List UInt8} (h : NameP l) : nameB l = true := by unfold nameB; exact @decide_eq_true _ (Classical.propDecidable _) h
theorem nameB_false {l : List UInt8} (h : ¬ NameP l) : nameB l = false := by unfold nameB; exact @decide_eq_false _ (Classical.propDecidable _) h
theorem nameB_not {l : List UInt8} {k : Nat} {c : UInt8} (hc : l[k]? = some c) (h : ¬ okAt k c.toNat) : nameB l = false := nameB_false fun hn => h (hn.2 k c hc)
theorem nameB_mark : nameB [63] = false := nameB_not (k := 0) (c := 63) rfl (by unfold okAt; decide)

noncomputable def code (L : List Pr) (k v : List UInt8) : Int := if nameB k = false ∨ 4096 < v.length then 2 else if lookL k L = none ∧ 64 ≤ L.length then 161 else 0
noncomputable def nxt (L : List Pr) (k v : List UInt8) : List Pr := if code L k v = 0 then ins k v false (wo k L) else L

theorem code_bad {L : List Pr} {k v : List UInt8} (h : nameB k = false ∨ 4096 < v.length) : code L k v = 2 := if_pos h
theorem code_many {L : List Pr} {k v : List UInt8} (h : ¬ (nameB k = false ∨ 4096 < v.length)) (h' : lookL k L = none ∧ 64 ≤ L.length) : code L k v = 161 := (if_neg h).trans (if_pos h')
theorem code_ok {L : List Pr} {k v : List UInt8} (h : ¬ (nameB k = false ∨ 4096 < v.length)) (h' : ¬ (lookL k L = none ∧ 64 ≤ L.length)) : code L k v = 0 := (if_neg h).trans (if_neg h')
theorem nxt_bad {L : List Pr} {k v : List UInt8} (h : nameB k = false ∨ 4096 < v.length) : nxt L k v = L := if_neg (by rw [code_bad h]; decide)
theorem nxt_many {L : List Pr} {k v : List UInt8} (h : ¬ (nameB k = false ∨ 4096 < v.length)) (h' : lookL k L = none ∧ 64 ≤ L.length) : nxt L k v = L := if_neg (by rw [code_many h h']; decide)
theorem nxt_ok {L : List Pr} {k v : List UInt8} (h : ¬ (nameB k = false ∨ 4096 < v.length)) (h' : ¬ (lookL k L = none ∧ 64 ≤ L.length)) : nxt L k v = ins k v false (wo k L) := if_pos (code_ok h h')
theorem new_length {L : List Pr} {k v : List UInt8} (hL : L.length ≤ 64) (h' : ¬ (lookL k L = none ∧ 64 ≤ L.length)) : (ins k v false (wo k L)).length ≤ 64 := by
  rw [ins_length]
  cases hl : lookL k L with
  | none => rw [wo_none hl]; have : ¬ 64 ≤ L.length := fun h => h' ⟨hl, h⟩; omega
  | some x => have := wo_lt hl; omega
theorem nxt_length {L : List Pr} {k v : List UInt8} (hL : L.length ≤ 64) : (nxt L k v).length ≤ 64 := by
  by_cases h : nameB k = false ∨ 4096 < v.length
  · rw [nxt_bad h]; exact hL
  · by_cases h' : lookL k L = none ∧ 64 ≤ L.length
    · rw [nxt_many h h']; exact hL
    · rw [nxt_ok h h']; exact new_length hL h'
end Go.Proofs.YtiocolgkkdfokaaGreatDoor
