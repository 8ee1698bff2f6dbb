/-
  The abstract evaluator: regions that draw their order; it is sound. No condition.
-/
import Derived.Test.YtiocolgkkdfokaaGreatDoorEvC
/-! Regions that draw their order: the walk in the order of the text, step by step. -/
namespace Go.Ab
noncomputable section

def memW (b : Array Nat) (i : Nat) (d : Dr) : St := withA b i d.s d.intro d.allocs

def pushD (df : Option ADef) (l : List ADef) : List ADef :=
  match df with
  | some x => x :: l
  | none => l

def loudDr (ops : Array Oper) (i : Nat) (o : Oper) (d : Dr) (v : AV) (df : Option ADef) (s1 : St) : Dr :=
  { d with tm := putT d.tm o.dst v, df := pushD df d.df, s := s1, intro := introA (Region.before ops) i d.intro d.allocs, eps := (d.s, d.intro) :: d.eps, louds := i :: d.louds, reads := keepReads (Region.before ops) i d.reads }

/-- a step: the slot's value, the state behind it -/
inductive SF (C : Ctx) (call : CallE) (ops : Array Oper) (base i : Nat) (o : Oper) (d : Dr) : Bool → AV → Dr → Prop
  | skip : SF C call ops base i o d false .undef { d with tm := putT d.tm o.dst .undef }
  | pure (v : AV) (s : St) (hc : cls C o = 0) (h : opA C d.s (evalO C d.tm) o = .ok (.val v s)) : SF C call ops base i o d true v { d with tm := putT d.tm o.dst v }
  | alloc (v v' : AV) (s : St) (ao : AO) (hc : cls C o = 1) (h : opA C { heap := .e, next := NX } (evalO C d.tm) o = .ok (.val v s)) (ho : s.heap.get NX = some ao)
      (hv : v.at NX (base + i) = .ok v') (hl : ao.lacks NX = true) : SF C call ops base i o d true v' { d with tm := putT d.tm o.dst v', allocs := (i, base + i, ao) :: d.allocs }
  | quiet (v : AV) (s : St) (hc : cls C o = 3) (h : opA C (memW (Region.before ops) i d) (evalO C d.tm) o = .ok (.val v s))
      (hb : sameBack C (Region.before ops) i o d.tm v d.allocs d.eps d.louds = true) : SF C call ops base i o d true v { d with tm := putT d.tm o.dst v, reads := (i, o, d.tm, v) :: d.reads }
  | loud (r : OR) (v : AV) (df : Option ADef) (s1 : St) (hc : cls C o = 2) (hch : ∀ l, d.louds.head? = some l → Bef ops l i)
      (h : opA C (memW (Region.before ops) i d) (evalO C d.tm) o = .ok r) (ha : asVal r call = .ok (.val v df s1))
      (hs : sameOn C (Region.before ops) i s1 (introA (Region.before ops) i d.intro d.allocs) d.allocs d.reads = true) (hn : s1.next ≤ NX) :
      SF C call ops base i o d true v (loudDr ops i o d v df s1)

theorem drawQuiet_ok {C : Ctx} {call : CallE} {ops : Array Oper} {base i : Nat} {o : Oper} {d d' : Dr} (h : drawQuiet C (Region.before ops) base i o d = .ok d') :
    (∃ v, SF C call ops base i o d true v d') ∧ d'.louds = d.louds := by
  unfold drawQuiet at h
  split at h
  · rename_i hc
    obtain ⟨r, h1, h2⟩ := Res.bind_ok h
    split at h2
    · cases h2
      exact ⟨⟨_, .pure _ _ hc h1⟩, rfl⟩
    · cases h2
  · rename_i hc
    obtain ⟨r, h1, h2⟩ := Res.bind_ok h
    split at h2
    · rename_i v s
      obtain ⟨ao, h3, h4⟩ := Res.bind_ok h2
      obtain ⟨v', h5, h6⟩ := Res.bind_ok h4
      obtain ⟨h7, h8⟩ := cond_ok h6
      cases h8
      exact ⟨⟨_, .alloc v v' s ao hc h1 (Res.ofOpt_ok h3) h5 h7⟩, rfl⟩
    · cases h2
  · rename_i hc
    obtain ⟨r, h1, h2⟩ := Res.bind_ok h
    split at h2
    · obtain ⟨h3, h4⟩ := cond_ok h2
      cases h4
      exact ⟨⟨_, .quiet _ _ hc h1 h3⟩, rfl⟩
    · cases h2
  · cases h

/-- the panic -/
structure Pan (C : Ctx) (call : CallE) (ops : Array Oper) (i : Nat) (o : Oper) (d : Dr) (ch : List PE) (s : St) : Prop where
  guard : drawGuard ops (Region.before ops) i o d = .ok true
  hc : cls C o = 2
  hch : ∀ l, d.louds.head? = some l → Bef ops l i
  op : ∃ r, opA C (memW (Region.before ops) i d) (evalO C d.tm) o = .ok r ∧ asVal r call = .ok (.pan ch s)
  df : d.df = []

theorem drawStep_ok {C : Ctx} {call : CallE} {ops : Array Oper} {base i : Nat} {o : Oper} {d : Dr} {r : DO} (h : drawStep C call ops (Region.before ops) base i o d = .ok r) :
    (∃ w v d', r = .go d' ∧ drawGuard ops (Region.before ops) i o d = .ok w ∧ SF C call ops base i o d w v d') ∨ (∃ ch s, r = .pan ch s ∧ Pan C call ops i o d ch s) := by
  obtain ⟨w, hg, h⟩ := Res.bind_ok h
  cases w with
  | false =>
    cases h
    exact .inl ⟨false, _, _, rfl, hg, .skip⟩
  | true =>
    simp only [cond_true] at h
    split at h
    · rename_i hc
      obtain ⟨h1, h2⟩ := cond_ok h
      obtain ⟨q, h3, h4⟩ := Res.bind_ok h2
      obtain ⟨lv, h5, h6⟩ := Res.bind_ok h4
      have hch : ∀ l, d.louds.head? = some l → Bef ops l i := by
        intro l hl
        cases hd : d.louds with
        | nil => rw [hd] at hl; cases hl
        | cons a t =>
          rw [hd] at hl h1
          cases hl
          exact h1
      split at h6
      · rename_i ch s
        obtain ⟨h7, h8⟩ := cond_ok h6
        cases h8
        exact .inr ⟨ch, s, rfl, hg, hc, hch, ⟨q, h3, h5⟩, List.isEmpty_iff.1 h7⟩
      · rename_i v df s1
        obtain ⟨h7, h8⟩ := cond_ok h6
        cases h8
        simp only [Bool.and_eq_true] at h7
        refine .inl ⟨true, v, loudDr ops i o d v df s1, ?_, hg, .loud q v df s1 hc hch h3 h5 h7.1 (Nat.le_of_ble_eq_true h7.2)⟩
        cases df <;> rfl
    · obtain ⟨d', h1, h2⟩ := Res.bind_ok h
      cases h2
      obtain ⟨⟨v, h3⟩, _⟩ := drawQuiet_ok (call := call) h1
      exact .inl ⟨true, v, d', rfl, hg, h3⟩

def dead (ops : Array Oper) (p : Option Nat) (k : Nat) : Prop := ∃ q, p = some q ∧ (k = q ∨ Bef ops q k)

/-- the whole walk, from operation i on -/
structure Plan (C : Ctx) (call : CallE) (ops : Array Oper) (base : Nat) (i : Nat) (l : List Oper) (d0 : Dr) (ds : Nat → Dr) (vs : Nat → AV) (p : Option Nat) : Prop where
  start : ds i = d0
  step : ∀ k o, l[k]? = some o → ¬ dead ops p (i + k) → ∃ w, drawGuard ops (Region.before ops) (i + k) o (ds (i + k)) = .ok w ∧ SF C call ops base (i + k) o (ds (i + k)) w (vs (i + k)) (ds (i + k + 1))
  stay : ∀ k o, l[k]? = some o → dead ops p (i + k) → ds (i + k + 1) = ds (i + k)
  calm : ∀ q, p = some q → ∀ k, k < l.length → q ≤ i + k → (ds (i + k + 1)).louds = (ds (i + k)).louds

theorem plan_cons {C : Ctx} {call : CallE} {ops : Array Oper} {base i : Nat} {o : Oper} {l : List Oper} {d d1 : Dr} {ds : Nat → Dr} {vs : Nat → AV} {p : Option Nat} {v : AV}
    (h : Plan C call ops base (i + 1) l d1 ds vs p) (hs : ¬ dead ops p i → ∃ w, drawGuard ops (Region.before ops) i o d = .ok w ∧ SF C call ops base i o d w v d1)
    (hd : dead ops p i → d1 = d) (hc : ∀ q, p = some q → q ≤ i → d1.louds = d.louds) :
    Plan C call ops base i (o :: l) d (fun k => if k = i then d else ds k) (fun k => if k = i then v else vs k) p where
  start := if_pos rfl
  step := fun k o' hk hn => by
    cases k with
    | zero =>
      simp only [List.getElem?_cons_zero, Option.some.injEq] at hk
      subst hk
      have hne : i + 1 ≠ i := by omega
      simp only [Nat.add_zero, if_true, if_neg hne, h.start] at hn ⊢
      exact hs hn
    | succ k =>
      have h1 : i + (k + 1) = i + 1 + k := by omega
      have hne : i + 1 + k ≠ i := by omega
      have hne' : i + 1 + k + 1 ≠ i := by omega
      rw [h1] at hn ⊢
      simp only [if_neg hne, if_neg hne']
      exact h.step k o' (by simpa using hk) hn
  stay := fun k o' hk hn => by
    cases k with
    | zero =>
      have hne : i + 1 ≠ i := by omega
      simp only [Nat.add_zero, if_true, if_neg hne, h.start] at hn ⊢
      exact hd hn
    | succ k =>
      have h1 : i + (k + 1) = i + 1 + k := by omega
      have hne : i + 1 + k ≠ i := by omega
      have hne' : i + 1 + k + 1 ≠ i := by omega
      rw [h1] at hn ⊢
      simp only [if_neg hne, if_neg hne']
      exact h.stay k o' (by simpa using hk) hn
  calm := fun q hq k hk hle => by
    cases k with
    | zero =>
      have hne : i + 1 ≠ i := by omega
      simp only [Nat.add_zero, if_true, if_neg hne, h.start] at hle ⊢
      exact hc q hq hle
    | succ k =>
      have h1 : i + (k + 1) = i + 1 + k := by omega
      have hne : i + 1 + k ≠ i := by omega
      have hne' : i + 1 + k + 1 ≠ i := by omega
      rw [h1] at hle ⊢
      simp only [if_neg hne, if_neg hne']
      exact h.calm q hq k (by simpa using hk) hle

theorem plan_nil {C : Ctx} {call : CallE} {ops : Array Oper} {base i : Nat} {d : Dr} {p : Option Nat} : Plan C call ops base i [] d (fun _ => d) (fun _ => .undef) p :=
  ⟨rfl, fun k o hk => by simp at hk, fun k o hk => by simp at hk, fun q _ k hk => by simp at hk⟩

theorem drawRest_plan {C : Ctx} {call : CallE} {ops : Array Oper} {base p : Nat} : ∀ (l : List Oper) (i : Nat) (d : Dr), p < i → drawRest C ops (Region.before ops) base p i l d = .ok () →
    ∃ ds vs, Plan C call ops base i l d ds vs (some p)
  | [], i, d, _, _ => ⟨_, _, plan_nil⟩
  | o :: l, i, d, hp, h => by
    unfold drawRest at h
    cases ha : aft (Region.before ops) p i with
    | true =>
      rw [ha] at h
      obtain ⟨ds, vs, hpl⟩ := drawRest_plan (call := call) l (i + 1) d (by omega) h
      exact ⟨_, _, plan_cons (v := .undef) hpl (fun hn => (hn ⟨p, rfl, .inr ha⟩).elim) (fun _ => rfl) (fun _ _ _ => rfl)⟩
    | false =>
      rw [ha] at h
      simp only [cond_false] at h
      have live : ¬ dead ops (some p) i := by
        rintro ⟨q, hq, h1⟩
        cases hq
        rcases h1 with h1 | h1
        · omega
        · have h1 : aft (Region.before ops) p i = true := h1
          rw [ha] at h1; cases h1
      obtain ⟨w, hg, h⟩ := Res.bind_ok h
      cases w with
      | true =>
        simp only [cond_true] at h
        obtain ⟨d1, h1, h2⟩ := Res.bind_ok h
        obtain ⟨⟨v, h3⟩, h4⟩ := drawQuiet_ok (call := call) h1
        obtain ⟨ds, vs, hpl⟩ := drawRest_plan (call := call) l (i + 1) d1 (by omega) h2
        exact ⟨_, _, plan_cons (v := v) hpl (fun _ => ⟨true, hg, h3⟩) (fun hd => (live hd).elim) (fun _ _ _ => h4)⟩
      | false =>
        simp only [cond_false] at h
        obtain ⟨ds, vs, hpl⟩ := drawRest_plan (call := call) l (i + 1) _ (by omega) h
        exact ⟨_, _, plan_cons (v := .undef) hpl (fun _ => ⟨false, hg, .skip⟩) (fun hd => (live hd).elim) (fun _ _ _ => rfl)⟩

/-- what the walk ends with -/
def EndsIn (C : Ctx) (call : CallE) (ops : Array Oper) (ds : Nat → Dr) (p : Option Nat) (n : Nat) : DO → Prop
  | .go d => p = none ∧ ds n = d
  | .pan ch s => ∃ q o, p = some q ∧ ops[q]? = some o ∧ Pan C call ops q o (ds q) ch s

theorem drawAll_plan {C : Ctx} {call : CallE} {ops : Array Oper} {base : Nat} (ht : Text ops) : ∀ (l : List Oper) (i : Nat) (d : Dr) (r : DO), ops.toList.drop i = l → drawAll C call ops (Region.before ops) base i l d = .ok r →
    ∃ ds vs p, Plan C call ops base i l d ds vs p ∧ EndsIn C call ops ds p (i + l.length) r ∧ (∀ q, p = some q → i ≤ q)
  | [], i, d, r, _, h => by
    cases h
    exact ⟨_, _, none, plan_nil, ⟨rfl, rfl⟩, fun q hq => by cases hq⟩
  | o :: l, i, d, r, hl, h => by
    obtain ⟨ho, hl'⟩ := ops_at hl
    unfold drawAll at h
    obtain ⟨r1, h1, h2⟩ := Res.bind_ok h
    rcases drawStep_ok h1 with ⟨w, v, d1, rfl, hg, hsf⟩ | ⟨ch, s, rfl, hpan⟩
    · obtain ⟨ds, vs, p, hpl, hend, hge⟩ := drawAll_plan ht l (i + 1) d1 r hl' h2
      refine ⟨_, _, p, plan_cons (v := v) hpl (fun _ => ⟨w, hg, hsf⟩) ?_ ?_, ?_, fun q hq => by have := hge q hq; omega⟩
      · rintro ⟨q, hq, h3⟩
        have := hge q hq
        rcases h3 with rfl | h3
        · omega
        · have := h3.lt ht; omega
      · intro q hq hle
        have := hge q hq
        omega
      · cases r with
        | go d' =>
          refine ⟨hend.1, ?_⟩
          have hne : i + (o :: l).length ≠ i := by simp
          simp only [if_neg hne]
          have h1 : i + (o :: l).length = i + 1 + l.length := by simp; omega
          rw [h1]
          exact hend.2
        | pan ch s =>
          obtain ⟨q, oq, hq, hoq, hpan⟩ := hend
          have hne : q ≠ i := by have := hge q hq; omega
          exact ⟨q, oq, hq, hoq, by simp only [if_neg hne]; exact hpan⟩
    · simp only at h2
      obtain ⟨u, h3, h4⟩ := Res.bind_ok h2
      cases h4
      obtain ⟨ds, vs, hpl⟩ := drawRest_plan (call := call) l (i + 1) d (by omega) h3
      refine ⟨_, _, some i, plan_cons (v := .undef) hpl (fun hn => (hn ⟨i, rfl, .inl rfl⟩).elim) (fun _ => rfl) (fun _ _ _ => rfl), ⟨i, o, rfl, ho, ?_⟩, fun q hq => by cases hq; exact Nat.le_refl _⟩
      simp only [if_true]
      exact hpan

end
end Go.Ab

/-! Regions that draw their order: facts of the walk. -/
namespace Go.Ab
noncomputable section
variable {C : Ctx} {call : CallE} {ops : Array Oper} {base : Nat} {d0 : Dr} {ds : Nat → Dr} {vs : Nat → AV} {p : Option Nat}

abbrev Walk (C : Ctx) (call : CallE) (ops : Array Oper) (base : Nat) (d0 : Dr) (ds : Nat → Dr) (vs : Nat → AV) (p : Option Nat) : Prop := Plan C call ops base 0 ops.toList d0 ds vs p

theorem Walk.step (h : Walk C call ops base d0 ds vs p) {k : Nat} {o : Oper} (ho : ops[k]? = some o) (hd : ¬ dead ops p k) :
    ∃ w, drawGuard ops (Region.before ops) k o (ds k) = .ok w ∧ SF C call ops base k o (ds k) w (vs k) (ds (k + 1)) := by
  have := Plan.step h k o (by simpa using ho) (by simpa using hd)
  simpa using this

theorem Walk.stay (h : Walk C call ops base d0 ds vs p) {k : Nat} {o : Oper} (ho : ops[k]? = some o) (hd : dead ops p k) : ds (k + 1) = ds k := by
  have := Plan.stay h k o (by simpa using ho) (by simpa using hd)
  simpa using this

def Loud (ds : Nat → Dr) (k : Nat) : Prop := (ds (k + 1)).louds = k :: (ds k).louds

structure Same (d d' : Dr) : Prop where
  s : d'.s = d.s
  intro : d'.intro = d.intro
  df : d'.df = d.df
  eps : d'.eps = d.eps
  louds : d'.louds = d.louds

theorem Same.refl (d : Dr) : Same d d := ⟨rfl, rfl, rfl, rfl, rfl⟩
theorem Same.trans {a b c : Dr} (h : Same a b) (h' : Same b c) : Same a c :=
  ⟨h'.s.trans h.s, h'.intro.trans h.intro, h'.df.trans h.df, h'.eps.trans h.eps, h'.louds.trans h.louds⟩

theorem cons_ne (k : Nat) (l : List Nat) : l ≠ k :: l := fun h => by
  have := congrArg List.length h
  simp at this

theorem SF.same {i : Nat} {o : Oper} {d d' : Dr} {w : Bool} {v : AV} (h : SF C call ops base i o d w v d') (hl : d'.louds ≠ i :: d.louds) : Same d d' := by
  cases h with
  | skip => exact ⟨rfl, rfl, rfl, rfl, rfl⟩
  | pure => exact ⟨rfl, rfl, rfl, rfl, rfl⟩
  | alloc => exact ⟨rfl, rfl, rfl, rfl, rfl⟩
  | quiet => exact ⟨rfl, rfl, rfl, rfl, rfl⟩
  | loud => exact (hl rfl).elim

theorem SF.tm {i : Nat} {o : Oper} {d d' : Dr} {w : Bool} {v : AV} (h : SF C call ops base i o d w v d') : d'.tm = putT d.tm o.dst v ∧ d'.n = d.n := by
  cases h <;> exact ⟨rfl, rfl⟩

theorem some_of_lt {k : Nat} (h : k < ops.size) : ∃ o, ops[k]? = some o := ⟨ops[k], by simp [h]⟩

theorem Walk.same (h : Walk C call ops base d0 ds vs p) {k : Nat} (hk : k < ops.size) (hl : ¬ Loud ds k) : Same (ds k) (ds (k + 1)) := by
  obtain ⟨o, ho⟩ := some_of_lt hk
  by_cases hd : dead ops p k
  · rw [h.stay ho hd]; exact .refl _
  · obtain ⟨w, _, hs⟩ := h.step ho hd
    exact hs.same hl

theorem Walk.n (h : Walk C call ops base d0 ds vs p) : ∀ k, k ≤ ops.size → (ds k).n = d0.n
  | 0, _ => by rw [h.start]
  | k + 1, hk => by
    obtain ⟨o, ho⟩ := some_of_lt (ops := ops) (k := k) (by omega)
    by_cases hd : dead ops p k
    · rw [h.stay ho hd]; exact Walk.n h k (by omega)
    · obtain ⟨w, _, hs⟩ := h.step ho hd
      rw [hs.tm.2]; exact Walk.n h k (by omega)

theorem Walk.still (h : Walk C call ops base d0 ds vs p) {c : Nat} : ∀ i, c ≤ i → i ≤ ops.size → (∀ k, c ≤ k → k < i → ¬ Loud ds k) → Same (ds c) (ds i)
  | 0, h1, _, _ => by
    have : c = 0 := by omega
    subst this; exact .refl _
  | i + 1, h1, h2, h3 => by
    by_cases hc : c = i + 1
    · subst hc; exact .refl _
    · exact (Walk.still h i (by omega) (by omega) fun k a b => h3 k a (by omega)).trans (h.same (by omega) (h3 i (by omega) (by omega)))

theorem Walk.live (h : Walk C call ops base d0 ds vs p) {k : Nat} {o : Oper} (ho : ops[k]? = some o) (hl : Loud ds k) : ¬ dead ops p k := by
  intro hd
  have := h.stay ho hd
  unfold Loud at hl
  rw [this] at hl
  exact cons_ne _ _ hl

/-- the latest loud one -/
theorem Walk.head (h : Walk C call ops base d0 ds vs p) (h0 : d0.louds = []) : ∀ i, i ≤ ops.size → (∀ l, l < i → ¬ Loud ds l) ∧ (ds i).louds = [] ∨
    ∃ l t, (ds i).louds = l :: t ∧ Loud ds l ∧ l < i ∧ ∀ k, l < k → k < i → ¬ Loud ds k
  | 0, _ => .inl ⟨fun l hl => by omega, by rw [h.start]; exact h0⟩
  | i + 1, hi => by
    by_cases hl : Loud ds i
    · exact .inr ⟨i, _, hl, hl, by omega, fun k a b => by omega⟩
    · have hs := h.same (by omega) hl
      rw [hs.louds]
      rcases Walk.head h h0 i (by omega) with ⟨h1, h2⟩ | ⟨l, t, h1, h2, h3, h4⟩
      · refine .inl ⟨fun l hlt => ?_, h2⟩
        by_cases he : l = i
        · subst he; exact hl
        · exact h1 l (by omega)
      · refine .inr ⟨l, t, h1, h2, by omega, fun k a b => ?_⟩
        by_cases he : k = i
        · subst he; exact hl
        · exact h4 k a (by omega)

/-- the loud ones ahead of one that is ready have been carried out -/
theorem Walk.before (h : Walk C call ops base d0 ds vs p) (h0 : d0.louds = []) {D : Nat → Prop} {i : Nat} (hi : i ≤ ops.size)
    (hh : ∀ l, (ds i).louds.head? = some l → D l) (hD : ∀ l, D l → Loud ds l → ∀ l', (ds l).louds.head? = some l' → D l') : ∀ l, l < i → Loud ds l → D l := by
  have key : ∀ n i, i ≤ n → i ≤ ops.size → (∀ l, (ds i).louds.head? = some l → D l) → ∀ l, l < i → Loud ds l → D l := by
    intro n
    induction n with
    | zero => intro i h1 _ _ l h2; omega
    | succ n ih =>
      intro i h1 h2 h3 l h4 h5
      rcases h.head h0 i h2 with ⟨g1, _⟩ | ⟨l1, t, g1, g2, g3, g4⟩
      · exact (g1 l h4 h5).elim
      · have hD1 : D l1 := h3 l1 (by rw [g1]; rfl)
        by_cases he : l = l1
        · subst he; exact hD1
        · have hlt : l < l1 := by
            rcases Nat.lt_or_ge l l1 with h | h
            · exact h
            · exact (g4 l (by omega) h4 h5).elim
          exact ih l1 (by omega) (by omega) (hD l1 hD1 g2) l hlt h5
  exact key i i (Nat.le_refl _) hi hh

def AL (ds : Nat → Dr) (base k : Nat) (ao : AO) : Prop := (ds (k + 1)).allocs = (k, base + k, ao) :: (ds k).allocs

theorem Walk.allocs (h : Walk C call ops base d0 ds vs p) (h0 : d0.allocs = []) : ∀ i, i ≤ ops.size → ∀ q ∈ (ds i).allocs, q.1 < i ∧ q.2.1 = base + q.1 ∧ AL ds base q.1 q.2.2
  | 0, _, q, hq => by rw [h.start, h0] at hq; cases hq
  | i + 1, hi, q, hq => by
    obtain ⟨o, ho⟩ := some_of_lt (ops := ops) (k := i) (by omega)
    have old : q ∈ (ds i).allocs → q.1 < i + 1 ∧ q.2.1 = base + q.1 ∧ AL ds base q.1 q.2.2 := fun hm => by
      obtain ⟨h1, h2⟩ := Walk.allocs h h0 i (by omega) q hm
      exact ⟨by omega, h2⟩
    by_cases hd : dead ops p i
    · rw [h.stay ho hd] at hq; exact old hq
    · obtain ⟨w, _, hs⟩ := h.step ho hd
      have hq' := hq
      generalize vs i = vv at hs
      generalize hd' : ds (i + 1) = d' at hs hq'
      cases hs with
      | skip => exact old hq'
      | pure => exact old hq'
      | quiet => exact old hq'
      | loud => exact old hq'
      | alloc v v' s ao hc ha hb hv hl =>
        cases hq' with
        | head => exact ⟨by simp, rfl, by unfold AL; rw [hd']⟩
        | tail _ hm => exact old hm

theorem mem_keepReads {b : Array Nat} {i : Nat} {q : Nat × Oper × Tr AV × AV} : ∀ {l : List (Nat × Oper × Tr AV × AV)}, q ∈ l → aft b q.1 i = false → q ∈ keepReads b i l
  | x :: l, h, ha => by
    unfold keepReads
    cases h with
    | head => rw [ha]; exact .head _
    | tail _ h =>
      cases aft b x.1 i with
      | true => exact mem_keepReads h ha
      | false => exact .tail _ (mem_keepReads h ha)

theorem Walk.reads (h : Walk C call ops base d0 ds vs p) {i : Nat} {e : Nat × Oper × Tr AV × AV} (he : e.1 = i) (hi : e ∈ (ds (i + 1)).reads) : ∀ l, i + 1 ≤ l → l ≤ ops.size →
    (∀ k, i < k → k < l → Loud ds k → ¬ Bef ops i k) → e ∈ (ds l).reads
  | 0, h1, _, _ => by omega
  | l + 1, h1, h2, h3 => by
    by_cases hc : i + 1 = l + 1
    · rw [← hc]; exact hi
    · have ih := Walk.reads h he hi l (by omega) (by omega) fun k a b => h3 k a (by omega)
      obtain ⟨o, ho⟩ := some_of_lt (ops := ops) (k := l) (by omega)
      by_cases hd : dead ops p l
      · rw [h.stay ho hd]; exact ih
      · obtain ⟨w, _, hs⟩ := h.step ho hd
        have hb := h3 l (by omega) (by omega)
        unfold Loud at hb
        generalize vs l = vv at hs
        generalize ds (l + 1) = d' at hs hb ⊢
        cases hs with
        | skip => exact ih
        | pure => exact ih
        | alloc => exact ih
        | quiet => exact .tail _ ih
        | loud =>
          refine mem_keepReads ih ?_
          have := hb rfl
          rw [he]
          cases ha : aft (Region.before ops) i l with
          | false => rfl
          | true => exact (this ha).elim

theorem sameOn_mem {b : Array Nat} {i : Nat} {s : St} {intro : List Nat} {allocs : List Alloc} {q : Nat × Oper × Tr AV × AV} : ∀ {l : List (Nat × Oper × Tr AV × AV)}, sameOn C b i s intro allocs l = true → q ∈ l →
    aft b q.1 i = false → quietIn C (withA b q.1 s intro allocs) q.2.2.1 q.2.1 q.2.2.2 = true
  | x :: l, h, hq, ha => by
    unfold sameOn at h
    cases hq with
    | head =>
      rw [ha] at h
      simp only [cond_false, Bool.and_eq_true] at h
      exact h.1
    | tail _ hq =>
      cases hx : aft b x.1 i with
      | true => rw [hx] at h; exact sameOn_mem h hq ha
      | false =>
        rw [hx] at h
        simp only [cond_false, Bool.and_eq_true] at h
        exact sameOn_mem h.2 hq ha

theorem Walk.back (h : Walk C call ops base d0 ds vs p) {i : Nat} {o : Oper} {tm : Tr AV} {v : AV} {allocs : List Alloc} : ∀ j, j ≤ ops.size →
    sameBack C (Region.before ops) i o tm v allocs (ds j).eps (ds j).louds = true → ∀ l, l < j → Loud ds l → (∀ k, l ≤ k → k < j → Loud ds k → ¬ Bef ops k i) →
    quietIn C (withA (Region.before ops) i (ds l).s (ds l).intro allocs) tm o v = true
  | 0, _, _, l, hl, _, _ => by omega
  | j + 1, hj, hb, l, hl, hloud, hn => by
    by_cases hj' : Loud ds j
    · obtain ⟨oj, hoj⟩ := some_of_lt (ops := ops) (k := j) (by omega)
      obtain ⟨w, _, hs⟩ := h.step hoj (h.live hoj hj')
      have hnb := hn j (by omega) (by omega) hj'
      have e1 : (ds (j + 1)).eps = ((ds j).s, (ds j).intro) :: (ds j).eps ∧ (ds (j + 1)).louds = j :: (ds j).louds := by
        unfold Loud at hj'
        generalize vs j = vv at hs
        generalize ds (j + 1) = d' at hs hj' ⊢
        cases hs with
        | skip => exact (cons_ne _ _ hj').elim
        | pure => exact (cons_ne _ _ hj').elim
        | alloc => exact (cons_ne _ _ hj').elim
        | quiet => exact (cons_ne _ _ hj').elim
        | loud => exact ⟨rfl, rfl⟩
      rw [e1.1, e1.2] at hb
      unfold sameBack at hb
      have ha : aft (Region.before ops) j i = false := by
        cases hx : aft (Region.before ops) j i with
        | false => rfl
        | true => exact (hnb hx).elim
      rw [ha] at hb
      simp only [cond_false, Bool.and_eq_true] at hb
      by_cases he : l = j
      · subst he; exact hb.1
      · exact Walk.back h j (by omega) hb.2 l (by omega) hloud fun k a b => hn k a (by omega)
    · have hs := h.same (by omega) hj'
      rw [hs.eps, hs.louds] at hb
      have hne : l ≠ j := by rintro rfl; exact hj' hloud
      exact Walk.back h j (by omega) hb l (by omega) hloud fun k a b => hn k a (by omega)

def dstOf (ops : Array Oper) (k : Nat) : Option Nat := (ops[k]?).bind (·.dst)

def SlotAt (ops : Array Oper) (d0 : Dr) (vs : Nat → AV) (p : Option Nat) (i t : Nat) (av : AV) : Prop :=
  (∃ k, k < i ∧ ¬ dead ops p k ∧ dstOf ops k = some t ∧ vs k = av ∧ ∀ k', k < k' → k' < i → ¬ dead ops p k' → dstOf ops k' ≠ some t) ∨
    ((∀ k, k < i → ¬ dead ops p k → dstOf ops k ≠ some t) ∧ d0.tm.get t = some av)

theorem Walk.slot (h : Walk C call ops base d0 ds vs p) {t : Nat} {av : AV} : ∀ i, i ≤ ops.size → (ds i).tm.get t = some av → SlotAt ops d0 vs p i t av
  | 0, _, hg => .inr ⟨fun k hk => by omega, by rw [h.start] at hg; exact hg⟩
  | i + 1, hi, hg => by
    obtain ⟨o, ho⟩ := some_of_lt (ops := ops) (k := i) (by omega)
    have hdst : dstOf ops i = o.dst := by simp [dstOf, ho]
    have old : (dead ops p i ∨ dstOf ops i ≠ some t) → (ds i).tm.get t = some av → SlotAt ops d0 vs p (i + 1) t av := fun hx hg => by
      rcases Walk.slot h i (by omega) hg with ⟨k, h1, h2, h3, h4, h5⟩ | ⟨h1, h2⟩
      · refine .inl ⟨k, by omega, h2, h3, h4, fun k' a b c => ?_⟩
        by_cases he : k' = i
        · subst he
          rcases hx with hx | hx
          · exact (c hx).elim
          · exact hx
        · exact h5 k' a (by omega) c
      · refine .inr ⟨fun k' a c => ?_, h2⟩
        by_cases he : k' = i
        · subst he
          rcases hx with hx | hx
          · exact (c hx).elim
          · exact hx
        · exact h1 k' (by omega) c
    by_cases hd : dead ops p i
    · rw [h.stay ho hd] at hg; exact old (.inl hd) hg
    · obtain ⟨w, _, hs⟩ := h.step ho hd
      rw [hs.tm.1] at hg
      cases hx : o.dst with
      | none =>
        rw [hx] at hg
        exact old (.inr (by rw [hdst, hx]; simp)) hg
      | some d =>
        rw [hx] at hg
        unfold putT at hg
        rcases Tr.get_put _ _ _ _ _ _ hg with ⟨h1, h2⟩ | ⟨h1, h2⟩
        · subst h1
          exact .inl ⟨i, by omega, hd, by rw [hdst, hx], by simpa using h2, fun k' a b => by omega⟩
        · exact old (.inr (by rw [hdst, hx]; simpa using Ne.symm h1)) h2

end
end Go.Ab

/-! Regions that draw their order: what holds after any of the operations. -/
namespace Go.Ab
noncomputable section
variable {P : Program} {C : Ctx} {F : Fr} {call : CallE} {ops : Array Oper} {base : Nat} {d0 : Dr} {ds : Nat → Dr} {vs : Nat → AV} {p : Option Nat} {E0 E E' : Blk} {s0 : St}
  {D : Nat → Prop} {c i : Nat} {act act' : Act} {w w' : World} {o : Oper}

def GD (ops : Array Oper) (base : Nat) (ds : Nat → Dr) (D : Nat → Prop) (c : Nat) (b : Nat) (ao : AO) : Prop :=
  (ds c).s.heap.get b = some ao ∨ ∃ k, k < ops.size ∧ D k ∧ AL ds base k ao ∧ b = base + k ∧ memN b (ds c).intro = false

def WD (ops : Array Oper) (d0 : Dr) (vs : Nat → AV) (D : Nat → Prop) (t : Nat) (av : AV) : Prop :=
  (∃ k, D k ∧ dstOf ops k = some t ∧ vs k = av ∧ ∀ k', D k' → dstOf ops k' = some t → k' ≤ k) ∨ ((∀ k, D k → dstOf ops k ≠ some t) ∧ d0.tm.get t = some av)

structure J (C : Ctx) (F : Fr) (ops : Array Oper) (base : Nat) (d0 : Dr) (ds : Nat → Dr) (vs : Nat → AV) (p : Option Nat) (E0 : Blk) (s0 : St) (D : Nat → Prop) (c : Nat) (E : Blk) (act : Act) (w : World) : Prop where
  down : Down ops D
  sub : ∀ k, D k → k < ops.size
  pan : ∀ q, p = some q → ¬ D q
  ccur : c = 0 ∨ ∃ l, c = l + 1 ∧ Loud ds l ∧ D l
  clast : ∀ l, Loud ds l → D l → l < c
  next : base + ops.size ≤ (ds c).s.next
  le : (ds c).s.next ≤ NX
  old : ∀ b, b < base → E b = E0 b
  rng : ∀ k, k < ops.size → (¬ D k ∨ ∀ ao, ¬ AL ds base k ao) → E (base + k) = none
  free : Free E (ds c).s.next
  inv : InvG F E (GD ops base ds D c) w
  keys : ∀ b, b < base → s0.heap.get b = none → (ds c).s.heap.get b = none
  fresh : ∀ b c' κ, base ≤ b → E b = some (c', κ) → F.w0.heap.size ≤ c' ∨ ∃ b0 ao, s0.heap.get b0 = some ao ∧ E0 b0 = some (c', κ)
  clean : ∀ k, k < ops.size → memN (base + k) (ds c).intro = false → (ds c).s.heap.get (base + k) = none
  slots : ∀ t av, WD ops d0 vs D t av → Rel E av (act.tmps.getD t undef)
  df : DRels E (ds c).df act.defers
  n : d0.n ≤ act.tmps.size
  globs : Globs C E

structure Ready (ops : Array Oper) (D : Nat → Prop) (i : Nat) (o : Oper) : Prop where
  new : ¬ D i
  op : ops[i]? = some o
  edges : ∀ e ∈ o.after, Region.binds .any e = true → D e.on

theorem Ready.lt (h : Ready ops D i o) : i < ops.size := (Array.getElem?_eq_some_iff.1 h.op).1

theorem Ready.bef (ht : Text ops) (hD : Down ops D) (h : Ready ops D i o) {j : Nat} (hb : Bef ops j i) : D j :=
  hD.ready ht (fun o' ho => by rw [h.op] at ho; cases ho; exact h.edges) hb

theorem Ready.live (ht : Text ops) (hJ : J C F ops base d0 ds vs p E0 s0 D c E act w) (h : Ready ops D i o) (hp : p ≠ some i) : ¬ dead ops p i := by
  rintro ⟨q, hq, rfl | hb⟩
  · exact hp hq
  · exact hJ.pan q hq (h.bef ht hJ.down hb)

theorem done_live (ht : Text ops) (hJ : J C F ops base d0 ds vs p E0 s0 D c E act w) {k : Nat} (hk : D k) : ¬ dead ops p k := by
  rintro ⟨q, hq, rfl | hb⟩
  · exact hJ.pan _ hq hk
  · exact hJ.pan q hq (hJ.down.bef ht hb hk)

theorem AL.inj {k : Nat} {a b : AO} (h : AL ds base k a) (h' : AL ds base k b) : a = b := by
  unfold AL at h h'
  rw [h] at h'
  injection h' with h1 h2
  injection h1 with h3 h4
  injection h4

theorem J.fun_ (hJ : J C F ops base d0 ds vs p E0 s0 D c E act w) {b : Nat} {x y : AO} (h : GD ops base ds D c b x) (h' : GD ops base ds D c b y) : x = y := by
  rcases h with h | ⟨k, hk, h1, h2, h3, h4⟩ <;> rcases h' with h' | ⟨k', hk', g1, g2, g3, g4⟩
  · rw [h] at h'; cases h'; rfl
  · rw [g3] at h g4
    rw [hJ.clean k' hk' g4] at h; cases h
  · rw [h3] at h' h4
    rw [hJ.clean k hk h4] at h'; cases h'
  · have : k = k' := by omega
    subst this
    exact h2.inj g2

/-- the slots that a ready operation looks at -/
theorem J.look (ht : Text ops) (hP : Walk C call ops base d0 ds vs p) (hJ : J C F ops base d0 ds vs p E0 s0 D c E act w) (hr : Ready ops D i o) {t : Nat} {av : AV} (hl : t ∈ o.looksAt ops)
    (hg : (ds i).tm.get t = some av) : Rel E av (act.tmps.getD t undef) := by
  refine hJ.slots t av ?_
  -- those that write the slot
  have wr : ∀ k, k < ops.size → dstOf ops k = some t → (k < i → Bef ops k i) ∧ (i < k → Bef ops i k) := by
    intro k hk hd
    obtain ⟨ok, hok⟩ := some_of_lt hk
    have hd' : ok.dst = some t := by simpa [dstOf, hok] using hd
    refine ⟨fun hlt => ?_, fun hlt => ?_⟩
    · rcases ht.pair hlt hok hr.op with h | h
      · exact h
      · exact ((Oper.apart_spec h).1 t hd' hl).elim
    · rcases ht.pair hlt hr.op hok with h | h
      · exact h
      · exact ((Oper.apart_spec h).2.2 t hd' hl).elim
  have up : ∀ k, D k → dstOf ops k = some t → k < i := by
    intro k hk hd
    rcases Nat.lt_trichotomy k i with h | h | h
    · exact h
    · subst h; exact (hr.new hk).elim
    · exact (hr.new (hJ.down.bef ht ((wr k (hJ.sub k hk) hd).2 h) hk)).elim
  have hi := hr.lt
  rcases hP.slot i (by omega) hg with ⟨k, h1, h2, h3, h4, h5⟩ | ⟨h1, h2⟩
  · refine .inl ⟨k, hr.bef ht hJ.down ((wr k (by omega) h3).1 h1), h3, h4, fun k' hk' hd' => ?_⟩
    have := up k' hk' hd'
    rcases Nat.lt_or_ge k k' with h | h
    · exact (h5 k' h this (done_live ht hJ hk') hd').elim
    · exact h
  · exact .inr ⟨fun k hk hd => h1 k (up k hk hd) (done_live ht hJ hk) hd, h2⟩

theorem J.wanted (ht : Text ops) (hP : Walk C call ops base d0 ds vs p) (hJ : J C F ops base d0 ds vs p E0 s0 D c E act w) (hr : Ready ops D i o) {b : Bool}
    (h : drawGuard ops (Region.before ops) i o (ds i) = .ok b) : Region.wanted o (yielded ops act.tmps) = b ∧ ∀ d, o.dst = some d → d < act.tmps.size := by
  obtain ⟨_, h⟩ := cond_ok h
  have hi := hr.lt
  rw [hP.n i (by omega)] at h
  refine wantedA_at (E := E) (fun j want d hg hd av hav => hJ.look ht hP hr ?_ hav) hJ.n h
  unfold Oper.looksAt
  rw [hg]
  simp [hd]

/-- what a ready operation comes to -/
theorem J.run (hC : CtxOK P C) (ht : Text ops) (hP : Walk C call ops base d0 ds vs p) (hJ : J C F ops base d0 ds vs p E0 s0 D c E act w) (hr : Ready ops D i o) {s : St} {r : OR}
    (hs : ∀ b ao, s.heap.get b = some ao → GD ops base ds D c b ao) (hf : Free E s.next) (h : opA C s (evalO C (ds i).tm) o = .ok r) :
    OpRel (loc w E s.heap) E s w ((execOp act.eval o).run P w) r := by
  classical
  let ρ : Env := fun x => if x ∈ o.op.operands then evalO C (ds i).tm x else .bad ""
  have hcg : opA C s ρ o = .ok r := by
    rw [← h]
    refine opA_congr o fun x hx => ?_
    show (if x ∈ o.op.operands then evalO C (ds i).tm x else .bad "") = _
    rw [if_pos hx]
  refine opA_ok hC hf (hJ.inv.loc hs) (fun x a hx => ?_) hcg
  have hx' : (if x ∈ o.op.operands then evalO C (ds i).tm x else .bad "") = Res.ok a := hx
  by_cases hm : x ∈ o.op.operands
  · rw [if_pos hm] at hx'
    cases x with
    | tmp t =>
      have hg := Res.ofOpt_ok hx'
      refine hJ.look ht hP hr ?_ hg
      unfold Oper.looksAt
      exact List.mem_append_left _ (List.mem_filterMap.2 ⟨.tmp t, by simpa using hm, rfl⟩)
    | const v => exact absV_rel (Res.ofOpt_ok hx')
    | global g =>
      obtain ⟨h1, h2⟩ := cond_ok hx'
      cases h2
      exact .tptr 0 (hJ.globs g (blt_lt h1))
    | func f => cases hx'; exact .func _ .nil .nil
  · rw [if_neg hm] at hx'; cases hx'

/-- the slots behind an operation -/
theorem J.slots' (ht : Text ops) (hJ : J C F ops base d0 ds vs p E0 s0 D c E act w) (hr : Ready ops D i o) (hE : Le E E') {x : Value} (hv : Rel E' (vs i) x) (hd : ∀ d, o.dst = some d → d < act.tmps.size)
    (t : Nat) (av : AV) (h : WD ops d0 vs (fun k => D k ∨ k = i) t av) : Rel E' av ((act.put o.dst x).tmps.getD t undef) := by
  have hdst : dstOf ops i = o.dst := by simp [dstOf, hr.op]
  by_cases ht' : o.dst = some t
  · have : av = vs i := by
      rcases h with ⟨k, hk, h1, h2, h3⟩ | ⟨h1, _⟩
      · have hik := h3 i (.inr rfl) (by rw [hdst]; exact ht')
        rcases hk with hk | rfl
        · rcases Nat.lt_or_ge i k with hlt | hge
          · exfalso
            obtain ⟨ok, hok⟩ := some_of_lt (hJ.sub k hk)
            have hd' : ok.dst = some t := by simpa [dstOf, hok] using h1
            rcases ht.pair hlt hr.op hok with h | h
            · exact hr.new (hJ.down.bef ht h hk)
            · exact (Oper.apart_spec h).2.1 t ht' hd'
          · have : k = i := by omega
            subst this; exact h2.symm
        · exact h2.symm
      · exact (h1 i (.inr rfl) (by rw [hdst]; exact ht')).elim
    subst this
    have hlt : t < act.tmps.size := hd t ht'
    rw [ht']
    simp only [Act.put, Array.getD_eq_getD_getElem?, Array.getElem?_setIfInBounds_self_of_lt hlt, Option.getD_some]
    exact hv
  · have hW : WD ops d0 vs D t av := by
      rcases h with ⟨k, hk, h1, h2, h3⟩ | ⟨h1, h2⟩
      · rcases hk with hk | rfl
        · exact .inl ⟨k, hk, h1, h2, fun k' hk' => h3 k' (.inl hk')⟩
        · rw [hdst] at h1; exact (ht' h1).elim
      · exact .inr ⟨fun k hk => h1 k (.inl hk), h2⟩
    have := (hJ.slots t av hW).mono hE
    cases hx : o.dst with
    | none => exact this
    | some d =>
      have hne : d ≠ t := by rintro rfl; exact ht' hx
      simp only [Act.put, Array.getD_eq_getD_getElem?, Array.getElem?_setIfInBounds_ne hne] at this ⊢
      exact this

theorem Ready.down (hD : Down ops D) (hr : Ready ops D i o) : Down ops (fun k => D k ∨ k = i) := by
  intro k o' ho hk e he hb
  rcases hk with hk | rfl
  · exact .inl (hD k o' ho hk e he hb)
  · rw [hr.op] at ho; cases ho
    exact .inl (hr.edges e he hb)

/-- behind an operation that makes no reserved block -/
theorem J.next' (ht : Text ops) (hJ : J C F ops base d0 ds vs p E0 s0 D c E act w) (hr : Ready ops D i o) {s s' : St} {x : Value} {c' : Nat} (hs : ∀ b ao, s.heap.get b = some ao → GD ops base ds D c b ao)
    (hsn : s.next = (ds c).s.next) (hst : Stp (loc w E s.heap) E s E' s' w') (hnp : p ≠ some i) (hnal : ∀ ao, ¬ AL ds base i ao) (hv : Rel E' (vs i) x) (hd : ∀ d, o.dst = some d → d < act.tmps.size)
    (hc' : (c' = i + 1 ∧ Loud ds i ∧ c ≤ i) ∨ (c' = c ∧ ¬ Loud ds i)) (hn' : (ds c').s.next = s'.next) (hle : (ds c').s.next ≤ NX)
    (hG : ∀ b ao, GD ops base ds (fun k => D k ∨ k = i) c' b ao → s'.heap.get b = some ao ∨ (s.heap.get b = none ∧ GD ops base ds D c b ao))
    (hkeys : ∀ b, b < base → s0.heap.get b = none → (ds c').s.heap.get b = none)
    (hclean : ∀ k, k < ops.size → memN (base + k) (ds c').intro = false → (ds c').s.heap.get (base + k) = none)
    (htm : act'.tmps = (act.put o.dst x).tmps) (hdf : DRels E' (ds c').df act'.defers) :
    J C F ops base d0 ds vs p E0 s0 (fun k => D k ∨ k = i) c' E' act' w' := by
  have hfs : Free E s.next := by rw [hsn]; exact hJ.free
  have hE := hst.Le hfs
  have hbase : ∀ k, k < ops.size → base + k < s.next := fun k hk => by have := hJ.next; omega
  refine ⟨hr.down hJ.down, ?_, ?_, ?_, ?_, ?_, hle, ?_, ?_, by rw [hn']; exact hst.free, hJ.inv.combine hs hfs hst hG, hkeys, ?_, hclean, ?_, hdf, ?_, hJ.globs.mono hE⟩
  · rintro k (hk | rfl)
    · exact hJ.sub k hk
    · exact hr.lt
  · rintro q hq (hk | rfl)
    · exact hJ.pan q hq hk
    · exact hnp hq
  · rcases hc' with ⟨h1, h2, _⟩ | ⟨rfl, _⟩
    · exact .inr ⟨i, h1, h2, .inr rfl⟩
    · rcases hJ.ccur with h | ⟨l, h1, h2, h3⟩
      · exact .inl h
      · exact .inr ⟨l, h1, h2, .inl h3⟩
  · rintro l hl hk
    rcases hc' with ⟨rfl, _, h3⟩ | ⟨rfl, h2⟩
    · rcases hk with hk | rfl
      · have := hJ.clast l hl hk; omega
      · omega
    · rcases hk with hk | rfl
      · exact hJ.clast l hl hk
      · exact (h2 hl).elim
  · rw [hn']; have := hst.le; have := hJ.next; omega
  · intro b hb
    rw [hst.old b (by have := hJ.next; omega)]
    exact hJ.old b hb
  · intro k hk hno
    rw [hst.old _ (hbase k hk)]
    refine hJ.rng k hk ?_
    rcases hno with h | h
    · exact .inl fun hk => h (.inl hk)
    · exact .inr h
  · intro b c1 κ hb hEb
    rcases Nat.lt_or_ge b s.next with h1 | h1
    · rw [hst.old b h1] at hEb; exact hJ.fresh b c1 κ hb hEb
    · rcases hst.fresh b c1 κ h1 hEb with h2 | ⟨b0, ao, h2, h3⟩
      · exact .inl (Nat.le_trans hJ.inv.size h2)
      · rcases Nat.lt_or_ge b0 base with h4 | h4
        · have h5 := hs _ _ h2
          rcases h5 with h5 | ⟨k, _, _, _, h6, _⟩
          · cases h6 : s0.heap.get b0 with
            | none => rw [hJ.keys b0 h4 h6] at h5; cases h5
            | some ao0 => rw [hJ.old b0 h4] at h3; exact .inr ⟨b0, ao0, h6, h3⟩
          · omega
        · exact hJ.fresh b0 c1 κ h4 h3
  · intro t av hW
    rw [htm]
    exact hJ.slots' ht hr hE hv hd t av hW
  · rw [htm]
    have := hJ.n
    cases o.dst <;> simpa [Act.put] using this

end
end Go.Ab

/-! Regions that draw their order: any of the operations that are ready. -/
namespace Go.Ab
variable {P : Program} {C : Ctx} {F : Fr} {call : CallE} {ops : Array Oper} {base : Nat} {d0 : Dr} {ds : Nat → Dr} {vs : Nat → AV} {p : Option Nat} {E0 E E' : Blk} {s0 : St}
  {D : Nat → Prop} {c i : Nat} {act act' : Act} {w w' : World} {o : Oper}

theorem withA_next (b : Array Nat) (i : Nat) (s : St) (intro : List Nat) : ∀ l : List Alloc, (withA b i s intro l).next = s.next
  | [] => rfl
  | q :: l => by
    unfold withA
    cases (aft b q.1 i && !memN q.2.1 intro) with
    | true => exact withA_next b i s intro l
    | false => exact withA_next b i s intro l

theorem withA_get (b : Array Nat) (i : Nat) (s : St) (intro : List Nat) {k : Nat} {ao : AO} : ∀ l : List Alloc, (withA b i s intro l).heap.get k = some ao →
    (∃ q ∈ l, aft b q.1 i = true ∧ memN q.2.1 intro = false ∧ q.2.1 = k ∧ q.2.2 = ao) ∨ s.heap.get k = some ao
  | [], h => .inr h
  | q :: l, h => by
    unfold withA at h
    have old : (withA b i s intro l).heap.get k = some ao → (∃ q' ∈ q :: l, aft b q'.1 i = true ∧ memN q'.2.1 intro = false ∧ q'.2.1 = k ∧ q'.2.2 = ao) ∨ s.heap.get k = some ao := fun h => by
      rcases withA_get b i s intro l h with ⟨q', h1, h2⟩ | h
      · exact .inl ⟨q', .tail _ h1, h2⟩
      · exact .inr h
    cases hc : (aft b q.1 i && !memN q.2.1 intro) with
    | true =>
      rw [hc] at h
      rcases put_some h with ⟨h1, h2⟩ | ⟨_, h2⟩
      · simp only [Bool.and_eq_true, Bool.not_eq_true'] at hc
        exact .inl ⟨q, .head _, hc.1, hc.2, h1.symm, h2⟩
      · exact old h2
    | false => rw [hc] at h; exact old h

theorem allA_next (s : St) (intro : List Nat) : ∀ l : List Alloc, (allA s intro l).next = s.next
  | [] => rfl
  | q :: l => by
    unfold allA
    cases memN q.2.1 intro with
    | true => exact allA_next s intro l
    | false => exact allA_next s intro l

theorem allA_get (s : St) (intro : List Nat) {k : Nat} {ao : AO} : ∀ l : List Alloc, (allA s intro l).heap.get k = some ao →
    (∃ q ∈ l, memN q.2.1 intro = false ∧ q.2.1 = k ∧ q.2.2 = ao) ∨ s.heap.get k = some ao
  | [], h => .inr h
  | q :: l, h => by
    unfold allA at h
    have old : (allA s intro l).heap.get k = some ao → (∃ q' ∈ q :: l, memN q'.2.1 intro = false ∧ q'.2.1 = k ∧ q'.2.2 = ao) ∨ s.heap.get k = some ao := fun h => by
      rcases allA_get s intro l h with ⟨q', h1, h2⟩ | h
      · exact .inl ⟨q', .tail _ h1, h2⟩
      · exact .inr h
    cases hc : memN q.2.1 intro with
    | false =>
      rw [hc] at h
      rcases put_some h with ⟨h1, h2⟩ | ⟨_, h2⟩
      · exact .inl ⟨q, .head _, hc, h1.symm, h2⟩
      · exact old h2
    | true => rw [hc] at h; exact old h

theorem introA_out (b : Array Nat) (i : Nat) (intro : List Nat) {k : Nat} : ∀ l : List Alloc, memN k (introA b i intro l) = false →
    memN k intro = false ∧ ∀ q ∈ l, q.2.1 = k → aft b q.1 i = true → False
  | [], h => ⟨h, fun q hq => by cases hq⟩
  | q :: l, h => by
    unfold introA at h
    cases hc : (aft b q.1 i && !memN q.2.1 intro) with
    | true =>
      rw [hc] at h
      simp only [cond_true] at h
      unfold memN at h
      cases hk : Nat.beq k q.2.1 with
      | true => rw [hk] at h; cases h
      | false =>
        rw [hk] at h
        obtain ⟨h1, h2⟩ := introA_out b i intro l h
        refine ⟨h1, fun q' hq' he ha => ?_⟩
        cases hq' with
        | head => exact beq_false hk he.symm
        | tail _ hq' => exact h2 q' hq' he ha
    | false =>
      rw [hc] at h
      obtain ⟨h1, h2⟩ := introA_out b i intro l h
      refine ⟨h1, fun q' hq' he ha => ?_⟩
      cases hq' with
      | head =>
        rw [ha, he, h1] at hc
        cases hc
      | tail _ hq' => exact h2 q' hq' he ha

theorem Walk.chain (h : Walk C call ops base d0 ds vs p) {l : Nat} (hl : l < ops.size) (hloud : Loud ds l) : ∀ l', (ds l).louds.head? = some l' → Bef ops l' l := by
  obtain ⟨ol, hol⟩ := some_of_lt hl
  obtain ⟨w, _, hs⟩ := h.step hol (h.live hol hloud)
  unfold Loud at hloud
  generalize vs l = vv at hs
  generalize ds (l + 1) = d' at hs hloud
  cases hs with
  | skip => exact (cons_ne _ _ hloud).elim
  | pure => exact (cons_ne _ _ hloud).elim
  | alloc => exact (cons_ne _ _ hloud).elim
  | quiet => exact (cons_ne _ _ hloud).elim
  | loud r v df s1 hc hch => exact hch

/-- the loud ones ahead of one that has been carried out -/
theorem J.chain (ht : Text ops) (hP : Walk C call ops base d0 ds vs p) (h0 : d0.louds = []) (hJ : J C F ops base d0 ds vs p E0 s0 D c E act w) {l l' : Nat} (hl : Loud ds l) (hD : D l) (hlt : l' < l)
    (hl' : Loud ds l') : D l' := by
  have hsz := hJ.sub l hD
  have up : ∀ l, D l → Loud ds l → ∀ l', (ds l).louds.head? = some l' → D l' := fun l hD hl l' h => hJ.down.bef ht (hP.chain (hJ.sub l hD) hl l' h) hD
  exact hP.before h0 (by omega) (up l hD hl) up l' hlt hl'

/-- a loud one that is ready stands at the end of what has been carried out -/
theorem J.epoch (ht : Text ops) (hP : Walk C call ops base d0 ds vs p) (h0 : d0.louds = []) (hJ : J C F ops base d0 ds vs p E0 s0 D c E act w) (hr : Ready ops D i o)
    (hch : ∀ l, (ds i).louds.head? = some l → Bef ops l i) (hno : ∀ l, Loud ds l → D l → l < i) : c ≤ i ∧ Same (ds c) (ds i) := by
  have hi := hr.lt
  have hc : c ≤ i := by
    rcases hJ.ccur with h | ⟨l, h1, h2, h3⟩
    · omega
    · have := hno l h2 h3; omega
  have up : ∀ l, D l → Loud ds l → ∀ l', (ds l).louds.head? = some l' → D l' := fun l hD hl l' h => hJ.down.bef ht (hP.chain (hJ.sub l hD) hl l' h) hD
  refine ⟨hc, hP.still i hc (by omega) fun k h1 h2 hk => ?_⟩
  have hD := hP.before h0 (by omega) (fun l hl => hr.bef ht hJ.down (hch l hl)) up k h2 hk
  have := hJ.clast k hk hD
  omega

theorem least {Q : Nat → Prop} : ∀ n m : Nat, (∃ k, m ≤ k ∧ k < m + n ∧ Q k) → ∃ l, m ≤ l ∧ l < m + n ∧ Q l ∧ ∀ k, m ≤ k → k < l → ¬ Q k
  | 0, m, ⟨k, h1, h2, _⟩ => by omega
  | n + 1, m, ⟨k, h1, h2, h3⟩ => by
    by_cases hm : Q m
    · exact ⟨m, by omega, by omega, hm, fun k a b => by omega⟩
    · have hne : m ≠ k := by rintro rfl; exact hm h3
      obtain ⟨l, g1, g2, g3, g4⟩ := least n (m + 1) ⟨k, by omega, by omega, h3⟩
      refine ⟨l, by omega, by omega, g3, fun k a b => ?_⟩
      by_cases he : k = m
      · subst he; exact hm
      · exact g4 k (by omega) b

theorem quietIn_ok {s : St} {tm : Tr AV} {v : AV} (h : quietIn C s tm o v = true) : ∃ s', opA C s (evalO C tm) o = .ok (.val v s') := by
  unfold quietIn at h
  split at h
  · rename_i u s' hu
    rw [AV.same_ok h] at hu
    exact ⟨s', hu⟩
  · cases h

/-- a quiet one, whenever it is ready -/
theorem J.quiet (ht : Text ops) (hP : Walk C call ops base d0 ds vs p) (h0 : d0.louds = []) (h1 : d0.allocs = []) (hJ : J C F ops base d0 ds vs p E0 s0 D c E act w) (hr : Ready ops D i o) {v : AV} {s : St}
    (h : opA C (memW (Region.before ops) i (ds i)) (evalO C (ds i).tm) o = .ok (.val v s))
    (hb : sameBack C (Region.before ops) i o (ds i).tm v (ds i).allocs (ds i).eps (ds i).louds = true) (hrd : (i, o, (ds i).tm, v) ∈ (ds (i + 1)).reads) (hnl : ¬ Loud ds i) :
    ∃ allocs s', (∀ q ∈ allocs, q.1 < ops.size ∧ q.2.1 = base + q.1 ∧ AL ds base q.1 q.2.2) ∧
      opA C (withA (Region.before ops) i (ds c).s (ds c).intro allocs) (evalO C (ds i).tm) o = .ok (.val v s') := by
  have hi := hr.lt
  have al : ∀ j, j ≤ ops.size → ∀ q ∈ (ds j).allocs, q.1 < ops.size ∧ q.2.1 = base + q.1 ∧ AL ds base q.1 q.2.2 := fun j hj q hq => by
    obtain ⟨g1, g2⟩ := hP.allocs h1 j hj q hq
    exact ⟨by omega, g2⟩
  rcases Nat.lt_or_ge i c with hlt | hge
  · -- behind a later one
    rcases hJ.ccur with hc | ⟨l, rfl, hl, hD⟩
    · omega
    · have hne : l ≠ i := by rintro rfl; exact hnl hl
      have hli : i < l := by omega
      have hsz := hJ.sub l hD
      have hmem := hP.reads (i := i) rfl hrd l (by omega) (by omega) fun k a b hk hbk => hr.new (hJ.down.bef ht hbk (hJ.chain ht hP h0 hl hD b hk))
      obtain ⟨ol, hol⟩ := some_of_lt hsz
      obtain ⟨wl, _, hs⟩ := hP.step hol (hP.live hol hl)
      have hbf : aft (Region.before ops) i l = false := by
        cases hx : aft (Region.before ops) i l with
        | false => rfl
        | true => exact (hr.new (hJ.down.bef ht hx hD)).elim
      have key : quietIn C (withA (Region.before ops) i (ds (l + 1)).s (ds (l + 1)).intro (ds l).allocs) (ds i).tm o v = true := by
        unfold Loud at hl
        generalize vs l = vv at hs
        generalize ds (l + 1) = d' at hs hl ⊢
        cases hs with
        | skip => exact (cons_ne _ _ hl).elim
        | pure => exact (cons_ne _ _ hl).elim
        | alloc => exact (cons_ne _ _ hl).elim
        | quiet => exact (cons_ne _ _ hl).elim
        | loud r v' df s1 hc hch ha hb' hso hn => exact sameOn_mem hso hmem hbf
      obtain ⟨s', hs'⟩ := quietIn_ok key
      exact ⟨_, s', al l (by omega), hs'⟩
  · by_cases hex : ∃ k, c ≤ k ∧ k < c + (i - c) ∧ Loud ds k
    · obtain ⟨l, g1, g2, g3, g4⟩ := least (i - c) c hex
      have hsame := hP.still l g1 (by omega) fun k a b => g4 k a b
      have key := hP.back i (by omega) hb l (by omega) g3 fun k a b hk hbk => by
        have hD := hr.bef ht hJ.down hbk
        have := hJ.clast k hk hD
        omega
      rw [hsame.s, hsame.intro] at key
      obtain ⟨s', hs'⟩ := quietIn_ok key
      exact ⟨_, s', al i (by omega), hs'⟩
    · have hsame := hP.still i hge (by omega) fun k a b hk => hex ⟨k, a, by omega, hk⟩
      unfold memW at h
      rw [hsame.s, hsame.intro] at h
      exact ⟨_, s, al i (by omega), h⟩

theorem cons_ne' {α : Type} {x : α} {l : List α} : l ≠ x :: l := fun h => by
  have := congrArg List.length h
  simp at this

/-- memory as a part of the operations sees it -/
theorem J.withA (ht : Text ops) (hJ : J C F ops base d0 ds vs p E0 s0 D c E act w) (hr : Ready ops D i o) {allocs : List Alloc}
    (ha : ∀ q ∈ allocs, q.1 < ops.size ∧ q.2.1 = base + q.1 ∧ AL ds base q.1 q.2.2) : ∀ b ao, (Ab.withA (Region.before ops) i (ds c).s (ds c).intro allocs).heap.get b = some ao → GD ops base ds D c b ao := by
  intro b ao h
  rcases withA_get _ _ _ _ _ h with ⟨q, h1, h2, h3, h4, h5⟩ | h
  · obtain ⟨g1, g2, g3⟩ := ha q h1
    subst h4 h5
    exact .inr ⟨q.1, g1, hr.bef ht hJ.down h2, g3, g2, h3⟩
  · exact .inl h

/-- behind an operation that changes no memory -/
theorem J.calm (ht : Text ops) (hJ : J C F ops base d0 ds vs p E0 s0 D c E act w) (hr : Ready ops D i o) {s : St} {x : Value} (hs : ∀ b ao, s.heap.get b = some ao → GD ops base ds D c b ao)
    (hsn : s.next = (ds c).s.next) (hst : Stp (loc w E s.heap) E s E' s w') (hnp : p ≠ some i) (hnal : ∀ ao, ¬ AL ds base i ao) (hnl : ¬ Loud ds i) (hv : Rel E' (vs i) x)
    (hd : ∀ d, o.dst = some d → d < act.tmps.size) : J C F ops base d0 ds vs p E0 s0 (fun k => D k ∨ k = i) c E' (act.put o.dst x) w' := by
  have hfs : Free E s.next := by rw [hsn]; exact hJ.free
  refine hJ.next' ht hr hs hsn hst hnp hnal hv hd (.inr ⟨rfl, hnl⟩) hsn.symm hJ.le (fun b ao h => ?_) hJ.keys hJ.clean rfl ?_
  · have h' : GD ops base ds D c b ao := by
      rcases h with h | ⟨k, h1, h2, h3, h4⟩
      · exact .inl h
      · rcases h2 with h2 | rfl
        · exact .inr ⟨k, h1, h2, h3, h4⟩
        · exact (hnal _ h3).elim
    cases hg : s.heap.get b with
    | none => exact .inr ⟨rfl, h'⟩
    | some a => rw [hJ.fun_ (hs b a hg) h']; exact .inl rfl
  · have := hJ.df.mono (hst.Le hfs)
    cases o.dst <;> exact this

/-- behind a new block -/
theorem J.alloc (ht : Text ops) (hJ : J C F ops base d0 ds vs p E0 s0 D c E act w) (hr : Ready ops D i o) {s' : St} {ao : AO} {v : AV} {x : Value} (hst : Stp (loc w E .e) E ⟨.e, NX⟩ E' s' w') (hnp : p ≠ some i)
    (hal : AL ds base i ao) (hao : s'.heap.get NX = some ao) (hlk : ao.lacks NX = true) (hnl : ¬ Loud ds i) (hv : Rel E' v x) (hat : v.at NX (base + i) = .ok (vs i))
    (hd : ∀ d, o.dst = some d → d < act.tmps.size) : ∃ E1, J C F ops base d0 ds vs p E0 s0 (fun k => D k ∨ k = i) c E1 (act.put o.dst x) w' := by
  have hi := hr.lt
  have hnext := hJ.next
  have hnx := hJ.le
  have hfx : Free E NX := fun b hb => hJ.free b (by omega)
  have hEm : E (base + i) = none := hJ.rng i hi (.inl hr.new)
  obtain ⟨q, hq, hinv⟩ := hJ.inv.alloc hfx (by omega) hEm hst hao hlk
  have hle : Le E (upd E (base + i) q) := upd_le _ hEm
  refine ⟨upd E (base + i) q, hr.down hJ.down, ?_, ?_, ?_, ?_, hJ.next, hJ.le, ?_, ?_, ?_, hinv.sub ?_, hJ.keys, ?_, hJ.clean, ?_, ?_, ?_, hJ.globs.mono hle⟩
  · rintro k (hk | rfl)
    · exact hJ.sub k hk
    · exact hi
  · rintro r hr' (hk | rfl)
    · exact hJ.pan r hr' hk
    · exact hnp hr'
  · rcases hJ.ccur with h | ⟨l, h1, h2, h3⟩
    · exact .inl h
    · exact .inr ⟨l, h1, h2, .inl h3⟩
  · rintro l hl (hk | rfl)
    · exact hJ.clast l hl hk
    · exact (hnl hl).elim
  · intro b hb
    rw [upd_other _ _ (by omega)]
    exact hJ.old b hb
  · intro k hk hno
    have hne : k ≠ i := by
      rintro rfl
      rcases hno with h | h
      · exact h (.inr rfl)
      · exact h _ hal
    rw [upd_other _ _ (by omega)]
    refine hJ.rng k hk ?_
    rcases hno with h | h
    · exact .inl fun hk => h (.inl hk)
    · exact .inr h
  · intro b hb
    rw [upd_other _ _ (by omega)]
    exact hJ.free b hb
  · rintro b a (h | ⟨k, h1, h2, h3, h4, h5⟩)
    · exact .inl (.inl h)
    · rcases h2 with h2 | rfl
      · exact .inl (.inr ⟨k, h1, h2, h3, h4, h5⟩)
      · exact .inr ⟨h4, h3.inj hal⟩
  · intro b c1 κ hb hEb
    by_cases he : b = base + i
    · subst he
      rw [upd_same] at hEb
      cases hEb
      rcases hst.fresh NX c1 κ (Nat.le_refl _) hq with h | ⟨b0, ao0, h, _⟩
      · exact .inl (Nat.le_trans hJ.inv.size h)
      · have : (Tr.e : Tr AO).get b0 = none := by cases b0 <;> rfl
        rw [this] at h; cases h
    · rw [upd_other _ _ he] at hEb
      exact hJ.fresh b c1 κ hb hEb
  · exact fun t av hW => hJ.slots' ht hr hle (hv.at hat fun r hr' => by rw [hq] at hr'; cases hr'; exact upd_same _ _ _) hd t av hW
  · have := hJ.df.mono hle
    cases o.dst <;> exact this
  · have := hJ.n
    cases o.dst <;> simpa [Act.put] using this

end Go.Ab

/-! Regions that draw their order: the loud ones; all together. -/
namespace Go.Ab
noncomputable section
variable {P : Program} {C : Ctx} {F : Fr} {call : CallE} {ops : Array Oper} {base : Nat} {d0 : Dr} {ds : Nat → Dr} {vs : Nat → AV} {p : Option Nat} {E0 E E' : Blk} {s0 : St}
  {D : Nat → Prop} {c i : Nat} {act act' : Act} {w w' : World} {o : Oper}

/-- behind a loud one -/
theorem J.loud (ht : Text ops) (hP : Walk C call ops base d0 ds vs p) (h1 : d0.allocs = []) (hJ : J C F ops base d0 ds vs p E0 s0 D c E act w) (hr : Ready ops D i o) {s1 : St} {x : Value}
    (hc : c ≤ i) (hsame : Same (ds c) (ds i)) (hst : Stp (loc w E (memW (Region.before ops) i (ds i)).heap) E (memW (Region.before ops) i (ds i)) E' s1 w') (hnp : p ≠ some i) (hl : Loud ds i)
    (hnal : ∀ ao, ¬ AL ds base i ao) (hs1 : (ds (i + 1)).s = s1) (hin : (ds (i + 1)).intro = introA (Region.before ops) i (ds i).intro (ds i).allocs) (hle : s1.next ≤ NX) (hv : Rel E' (vs i) x)
    (hd : ∀ d, o.dst = some d → d < act.tmps.size) (htm : act'.tmps = (act.put o.dst x).tmps) (hdf : DRels E' (ds (i + 1)).df act'.defers) :
    J C F ops base d0 ds vs p E0 s0 (fun k => D k ∨ k = i) (i + 1) E' act' w' := by
  have hi := hr.lt
  have al : ∀ q ∈ (ds i).allocs, q.1 < ops.size ∧ q.2.1 = base + q.1 ∧ AL ds base q.1 q.2.2 := fun q hq => by
    obtain ⟨g1, g2⟩ := hP.allocs h1 i (by omega) q hq
    exact ⟨by omega, g2⟩
  have hsn : (memW (Region.before ops) i (ds i)).next = (ds c).s.next := by unfold memW; rw [withA_next, hsame.s]
  have hs : ∀ b ao, (memW (Region.before ops) i (ds i)).heap.get b = some ao → GD ops base ds D c b ao := by
    unfold memW
    rw [hsame.s, hsame.intro]
    exact hJ.withA ht hr al
  have hnext := hJ.next
  -- what is not in memory ahead of it
  have out : ∀ k, k < ops.size → memN (base + k) (introA (Region.before ops) i (ds i).intro (ds i).allocs) = false → (memW (Region.before ops) i (ds i)).heap.get (base + k) = none := by
    intro k hk hm
    obtain ⟨g1, g2⟩ := introA_out _ _ _ _ hm
    cases hg : (memW (Region.before ops) i (ds i)).heap.get (base + k) with
    | none => rfl
    | some a =>
      rcases withA_get _ _ _ _ _ hg with ⟨q, k1, k2, k3, k4, k5⟩ | h
      · exact (g2 q k1 k4 k2).elim
      · rw [hsame.intro] at g1
        rw [hsame.s, hJ.clean k hk g1] at h; cases h
  refine hJ.next' ht hr hs hsn hst hnp hnal hv hd (.inl ⟨rfl, hl, hc⟩) (by rw [hs1]) (by rw [hs1]; exact hle) (fun b ao h => ?_) ?_ ?_ htm hdf
  · rcases h with h | ⟨k, k1, k2, k3, k4, k5⟩
    · rw [hs1] at h; exact .inl h
    · rw [hin] at k5
      subst k4
      refine .inr ⟨out k k1 k5, ?_⟩
      obtain ⟨g1, _⟩ := introA_out _ _ _ _ k5
      rw [hsame.intro] at g1
      rcases k2 with k2 | rfl
      · exact .inr ⟨k, k1, k2, k3, rfl, g1⟩
      · exact (hnal _ k3).elim
  · intro b hb hn
    rw [hs1]
    refine hst.keys b (by omega) ?_
    cases hg : (memW (Region.before ops) i (ds i)).heap.get b with
    | none => rfl
    | some a =>
      rcases withA_get _ _ _ _ _ hg with ⟨q, k1, k2, k3, k4, k5⟩ | h
      · have := (al q k1).2.1; omega
      · rw [hsame.s, hJ.keys b hb hn] at h; cases h
  · intro k hk hm
    rw [hin] at hm
    rw [hs1]
    exact hst.keys _ (by omega) (out k hk hm)

/-- the operations that are called are sound -/
def CallOk (P : Program) (C : Ctx) (call : CallE) : Prop := ∀ f args s o, call f args s = .ok o → Snd P C (.call f args s) o

theorem J.pre (hJ : J C F ops base d0 ds vs p E0 s0 D c E act w) {s : St} (hs : ∀ b ao, s.heap.get b = some ao → GD ops base ds D c b ao) (hsn : s.next = (ds c).s.next) : Pre C (loc w E s.heap) E s w :=
  ⟨by rw [hsn]; exact hJ.free, hJ.inv.loc hs, hJ.globs⟩

theorem J.go (hC : CtxOK P C) (ht : Text ops) (hP : Walk C call ops base d0 ds vs p) (hcall : CallOk P C call) (h0 : d0.louds = []) (h1 : d0.allocs = []) (hJ : J C F ops base d0 ds vs p E0 s0 D c E act w)
    (hr : Ready ops D i o) (hnp : p ≠ some i) {K : Act → World → Prop} {Q : Exit → Act → World → Prop}
    (hK : ∀ c' E' act' w', J C F ops base d0 ds vs p E0 s0 (fun k => D k ∨ k = i) c' E' act' w' → K act' w') : wpOp P ops Q i K act w := by
  have hi := hr.lt
  obtain ⟨wt, hg, hsf⟩ := hP.step hr.op (hr.live ht hJ hnp)
  obtain ⟨hw1, hw2⟩ := hJ.wanted ht hP hr hg
  unfold wpOp
  simp only [hr.op, hw1]
  have hin : ∀ b ao, (ds c).s.heap.get b = some ao → GD ops base ds D c b ao := fun b ao h => .inl h
  have noal : (ds (i + 1)).allocs = (ds i).allocs → ∀ ao, ¬ AL ds base i ao := fun h ao ha => by
    unfold AL at ha; rw [h] at ha; exact cons_ne' ha
  have nold : (ds (i + 1)).louds = (ds i).louds → ¬ Loud ds i := fun h hl => by
    unfold Loud at hl; rw [h] at hl; exact cons_ne _ _ hl
  -- a value that comes without a change of memory
  have calm : ∀ {s : St} {v : AV}, vs i = v → (∀ b ao, s.heap.get b = some ao → GD ops base ds D c b ao) → s.next = (ds c).s.next → opA C s (evalO C (ds i).tm) o = .ok (.val v s) →
      (ds (i + 1)).allocs = (ds i).allocs → (ds (i + 1)).louds = (ds i).louds → o.wp P act w K Q := by
    intro s v hv hs hsn hop hal hlo
    obtain ⟨x, w', E', hrun, hrel, hst⟩ := hJ.run hC ht hP hr hs (by rw [hsn]; exact hJ.free) hop
    have := hK c E' _ _ (hJ.calm ht hr hs hsn hst hnp (noal hal) (nold hlo) (by rw [hv]; exact hrel) hw2)
    rcases hrun with hrun | ⟨hrun, rfl⟩
    · simp only [Oper.wp, hrun, Oper.upon]; exact this
    · simp only [Oper.wp, hrun, Oper.upon]; exact this
  generalize hvv : vs i = vv at hsf
  generalize hdd : ds (i + 1) = dd at hsf calm noal nold
  cases hsf with
  | skip =>
    simp only [Bool.false_eq_true, if_false]
    exact hK c E _ _ (hJ.calm ht hr hin rfl (.refl hJ.free (hJ.inv.loc hin)) hnp (noal rfl) (nold rfl) (by rw [hvv]; exact .undef) hw2)
  | pure v s hc h =>
    simp only [if_true]
    obtain ⟨v', hv', hall⟩ := opA_pure hc h
    cases hv'
    exact .inl (calm (s := (ds c).s) hvv hin rfl (hall _) rfl rfl)
  | quiet v s hc h hb =>
    simp only [if_true]
    obtain ⟨allocs, s', ha, hop⟩ := hJ.quiet ht hP h0 h1 hr h hb (by rw [hdd]; exact .head _) (nold rfl)
    have := opA_quiet hc hop
    subst this
    exact .inl (calm hvv (hJ.withA ht hr ha) (withA_next _ _ _ _ _) hop rfl rfl)
  | alloc v v' s ao hc h ho hv hl =>
    simp only [if_true]
    have hnone : ∀ b ao, (Tr.e : Tr AO).get b = some ao → GD ops base ds D c b ao := fun b ao hb => by
      have : (Tr.e : Tr AO).get b = none := by cases b <;> rfl
      rw [this] at hb; cases hb
    have hle := hJ.le
    obtain ⟨x, w', E', hrun, hrel, hst⟩ := hJ.run hC ht hP hr (s := ⟨.e, NX⟩) hnone (fun b hb => hJ.free b (by have : NX ≤ b := hb; omega)) h
    have hal : AL ds base i ao := by unfold AL; rw [hdd]
    obtain ⟨E1, hJ'⟩ := hJ.alloc ht hr hst hnp hal ho hl (nold rfl) hrel (by rw [hvv]; exact hv) hw2
    have := hK c E1 _ _ hJ'
    rcases hrun with hrun | ⟨hrun, rfl⟩
    · simp only [Oper.wp, hrun, Oper.upon]; exact .inl this
    · simp only [Oper.wp, hrun, Oper.upon]; exact .inl this
  | loud r v df s1 hc hch h ha hso hn =>
    simp only [if_true]
    have hl : Loud ds i := by unfold Loud; rw [hdd]; rfl
    obtain ⟨hci, hsame⟩ := hJ.epoch ht hP h0 hr hch fun l hll hD => by
      rcases Nat.lt_trichotomy l i with h | h | h
      · exact h
      · subst h; exact (hr.new hD).elim
      · exact (hr.new (hJ.chain ht hP h0 hll hD h hl)).elim
    have al : ∀ q ∈ (ds i).allocs, q.1 < ops.size ∧ q.2.1 = base + q.1 ∧ AL ds base q.1 q.2.2 := fun q hq => by
      obtain ⟨g1, g2⟩ := hP.allocs h1 i (by omega) q hq
      exact ⟨by omega, g2⟩
    have hsn : (memW (Region.before ops) i (ds i)).next = (ds c).s.next := by unfold memW; rw [withA_next, hsame.s]
    have hs : ∀ b ao, (memW (Region.before ops) i (ds i)).heap.get b = some ao → GD ops base ds D c b ao := by
      unfold memW
      rw [hsame.s, hsame.intro]
      exact hJ.withA ht hr al
    have hfs : Free E (memW (Region.before ops) i (ds i)).next := by rw [hsn]; exact hJ.free
    have hop := hJ.run hC ht hP hr hs hfs h
    have fin : ∀ {E' w' x} (act' : Act), Stp (loc w E (memW (Region.before ops) i (ds i)).heap) E (memW (Region.before ops) i (ds i)) E' s1 w' → Rel E' (vs i) x → act'.tmps = (act.put o.dst x).tmps →
        DRels E' (pushD df (ds i).df) act'.defers → K act' w' := fun {E' w' x} act' hst hv htm hdf =>
      hK (i + 1) E' _ _ (hJ.loud ht hP h1 hr hci hsame hst hnp hl (noal rfl) (by rw [hdd]; rfl) (by rw [hdd]; rfl) hn hv hw2 htm (by rw [hdd]; exact hdf))
    have hdf0 : DRels E (ds i).df act.defers := by rw [hsame.df]; exact hJ.df
    have putdf : ∀ x, (act.put o.dst x).defers = act.defers := fun x => by cases o.dst <;> rfl
    refine .inl ?_
    cases r with
    | val v1 s2 =>
      cases ha
      obtain ⟨x, w', E', hrun, hrel, hst⟩ := hop
      have := fin (act.put o.dst x) hst (by rw [hvv]; exact hrel) rfl (by rw [putdf]; exact hdf0.mono (hst.Le hfs))
      rcases hrun with hrun | ⟨hrun, rfl⟩
      · simp only [Oper.wp, hrun, Oper.upon]; exact this
      · simp only [Oper.wp, hrun, Oper.upon]; exact this
    | defer d s2 =>
      cases ha
      obtain ⟨Dd, rfl, hrun, hD⟩ := hop
      simp only [Oper.wp, hrun, Oper.upon]
      refine fin (x := undef) _ (.refl hfs (hJ.inv.loc hs)) (by rw [hvv]; exact .undef) ?_ ?_
      · cases o.dst <;> rfl
      · have : DRels E (d :: (ds i).df) (Dd :: act.defers) := .cons hD hdf0
        cases o.dst <;> exact this
    | enter f args s2 =>
      obtain ⟨xs, rfl, hrun, hxs⟩ := hop
      obtain ⟨out, hout, h4⟩ := Res.bind_ok ha
      simp only [Oper.wp, hrun, Oper.upon]
      have hcl := hcall _ _ _ _ hout
      split at h4
      · cases h4
        refine hcl _ E w xs _ (hJ.pre hs hsn) hxs fun E' e' w' he' hst => ?_
        cases he' with
        | returned hv => exact fin _ hst (by rw [hvv]; exact hv) rfl (by rw [putdf]; exact hdf0.mono (hst.Le hfs))
      · cases h4
      · cases h4
    | recover => cases ha
    | panic v1 => cases ha

/-- the one that panics -/
theorem J.panics (hC : CtxOK P C) (ht : Text ops) (hP : Walk C call ops base d0 ds vs p) (hcall : CallOk P C call) (h0 : d0.louds = []) (h1 : d0.allocs = []) (hJ : J C F ops base d0 ds vs p E0 s0 D c E act w)
    (hr : Ready ops D i o) (hp : p = some i) {ch : List PE} {s : St} (hpan : Pan C call ops i o (ds i) ch s) {K : Act → World → Prop} {Q : Exit → Act → World → Prop}
    (hQ : ∀ E' L w', PRels E' ch L → Le E E' → Stp (loc w E (memW (Region.before ops) i (ds i)).heap) E (memW (Region.before ops) i (ds i)) E' s w' →
      (∀ b ao, (memW (Region.before ops) i (ds i)).heap.get b = some ao → GD ops base ds D c b ao) → (memW (Region.before ops) i (ds i)).next = (ds c).s.next → act.defers = [] → Q (.panic L) act w') :
    wpOp P ops Q i K act w := by
  have hi := hr.lt
  obtain ⟨hw1, hw2⟩ := hJ.wanted ht hP hr hpan.guard
  unfold wpOp
  simp only [hr.op, hw1, if_true]
  obtain ⟨hci, hsame⟩ := hJ.epoch ht hP h0 hr hpan.hch fun l hll hD => by
    rcases Nat.lt_or_ge l i with h | h
    · exact h
    · exfalso
      have := hP.calm i hp l (by simpa using hJ.sub l hD) (by omega)
      simp only [Nat.zero_add] at this
      unfold Loud at hll
      rw [this] at hll
      exact cons_ne _ _ hll
  have al : ∀ q ∈ (ds i).allocs, q.1 < ops.size ∧ q.2.1 = base + q.1 ∧ AL ds base q.1 q.2.2 := fun q hq => by
    obtain ⟨g1, g2⟩ := hP.allocs h1 i (by omega) q hq
    exact ⟨by omega, g2⟩
  have hsn : (memW (Region.before ops) i (ds i)).next = (ds c).s.next := by unfold memW; rw [withA_next, hsame.s]
  have hs : ∀ b ao, (memW (Region.before ops) i (ds i)).heap.get b = some ao → GD ops base ds D c b ao := by
    unfold memW
    rw [hsame.s, hsame.intro]
    exact hJ.withA ht hr al
  have hfs : Free E (memW (Region.before ops) i (ds i)).next := by rw [hsn]; exact hJ.free
  obtain ⟨r, h, ha⟩ := hpan.op
  have hop := hJ.run hC ht hP hr hs hfs h
  have hdf : act.defers = [] := by
    have := hJ.df
    rw [← hsame.df, hpan.df] at this
    exact this.nil_inv
  refine .inl ?_
  cases r with
  | val v1 s2 => cases ha
  | defer d s2 => cases ha
  | enter f args s2 =>
    obtain ⟨xs, rfl, hrun, hxs⟩ := hop
    obtain ⟨out, hout, h4⟩ := Res.bind_ok ha
    simp only [Oper.wp, hrun, Oper.upon]
    have hcl := hcall _ _ _ _ hout
    split at h4
    · cases h4
    · cases h4
      refine hcl _ E w xs _ (hJ.pre hs hsn) hxs fun E' e' w' he' hst => ?_
      cases he' with
      | panicked hv => exact hQ _ _ _ hv (hst.Le hfs) hst hs hsn hdf
    · cases h4
  | recover => cases ha
  | panic v1 => cases ha

end
end Go.Ab

/-! Regions that draw their order: the region; the evaluator as a whole. -/
namespace Go.Ab
noncomputable section
variable {P : Program} {C : Ctx} {F : Fr} {call : CallE} {ops : Array Oper} {base : Nat} {d0 : Dr} {ds : Nat → Dr} {vs : Nat → AV} {p : Option Nat} {E0 E E' : Blk} {s0 : St}
  {D : Nat → Prop} {c i : Nat} {act act' : Act} {w w' : World} {o : Oper}

theorem ready_of {listed : Array Bool} (h : i ∈ Region.ready .any ops listed) : ∃ o, Ready ops (fun k => listed.getD k false = true) i o := by
  obtain ⟨h1, o, h2, h3⟩ := mem_ready.1 h
  refine ⟨o, ?_, h2, h3⟩
  intro h4
  simp only [Array.getD_eq_getD_getElem?] at h1 h4
  cases hx : listed[i]? with
  | none => rw [hx] at h1; cases h1
  | some b => rw [hx] at h1 h4; simp only [Option.getD_some] at h1 h4; rw [h1] at h4; cases h4

theorem all_of_ready (ht : Text ops) {listed : Array Bool} (hs : listed.size = ops.size) (h : Region.ready .any ops listed = []) : ∀ k, k < ops.size → listed.getD k false = true := by
  intro k
  induction k using Nat.strongRecOn with
  | _ k ih =>
    intro hk
    obtain ⟨o, ho⟩ := some_of_lt hk
    cases hx : listed.getD k false with
    | true => rfl
    | false =>
      exfalso
      have : k ∈ Region.ready .any ops listed := by
        refine mem_ready.2 ⟨?_, o, ho, fun e he hb => ih e.on (ht.lex ho he hb) (by have := ht.lex ho he hb; omega)⟩
        have hk' : k < listed.size := by omega
        simp only [Array.getD_eq_getD_getElem?, Array.getElem?_eq_getElem hk', Option.getD_some] at hx ⊢
        exact hx
      rw [h] at this; cases this

theorem set_pred {listed : Array Bool} (hi : i < listed.size) : (fun k => listed.getD k false = true ∨ k = i) = fun k => (listed.setIfInBounds i true).getD k false = true := by
  funext k
  refine propext ⟨?_, ?_⟩
  · rintro (h | rfl)
    · exact getD_set_true h
    · simp [hi]
  · intro h
    by_cases hk : k = i
    · exact .inr hk
    · rw [getD_set_ne false (Ne.symm hk)] at h; exact .inl h

theorem set_count {listed : Array Bool} (hi : i < listed.size) (h : ¬ listed.getD i false = true) : (listed.setIfInBounds i true).toList.count true = listed.toList.count true + 1 := by
  have hi' : i < listed.toList.length := by simpa using hi
  rw [Array.toList_setIfInBounds, List.count_set hi']
  have hx : listed.toList[i] = false := by
    simp only [Array.getD_eq_getD_getElem?, Array.getElem?_eq_getElem hi, Option.getD_some] at h
    simp only [Array.getElem_toList]
    cases hb : listed[i] with
    | true => exact (h hb).elim
    | false => rfl
  rw [hx]
  simp

theorem any_ok (hC : CtxOK P C) (ht : Text ops) (hP : Walk C call ops base d0 ds vs p) (hcall : CallOk P C call) (h0 : d0.louds = []) (h1 : d0.allocs = []) {Q : Exit → Act → World → Prop}
    (hend : ∀ D c E act w, J C F ops base d0 ds vs p E0 s0 D c E act w → (∀ k, k < ops.size → D k) → Q .normal act w)
    (hpan : ∀ q, p = some q → ∃ o ch s, ops[q]? = some o ∧ Pan C call ops q o (ds q) ch s ∧ ∀ D c E act w E' L w', J C F ops base d0 ds vs p E0 s0 D c E act w → PRels E' ch L → Le E E' →
      Stp (loc w E (memW (Region.before ops) q (ds q)).heap) E (memW (Region.before ops) q (ds q)) E' s w' →
      (∀ b ao, (memW (Region.before ops) q (ds q)).heap.get b = some ao → GD ops base ds D c b ao) → (memW (Region.before ops) q (ds q)).next = (ds c).s.next → act.defers = [] → Q (.panic L) act w') :
    ∀ (fuel : Nat) (listed : Array Bool) (c : Nat) (E : Blk) (act : Act) (w : World), J C F ops base d0 ds vs p E0 s0 (fun k => listed.getD k false = true) c E act w → listed.size = ops.size →
      fuel + listed.toList.count true = ops.size → wpAny P .any ops Q fuel listed act w := by
  intro fuel
  induction fuel with
  | zero =>
    intro listed c E act w hJ hsz hn
    have hall : ∀ b ∈ listed.toList, true = b := by
      refine List.count_eq_length.1 ?_
      simp only [Array.length_toList]; omega
    have hr : Region.ready .any ops listed = [] := by
      refine List.eq_nil_iff_forall_not_mem.2 fun j hj => ?_
      obtain ⟨o, hr⟩ := ready_of hj
      have hlt : j < listed.size := by have := hr.lt; omega
      refine hr.new ?_
      simp only [Array.getD_eq_getD_getElem?, Array.getElem?_eq_getElem hlt, Option.getD_some]
      exact (hall _ (by simp)).symm
    exact ⟨hr, hend _ c E act w hJ (all_of_ready ht hsz hr)⟩
  | succ fuel ih =>
    intro listed c E act w hJ hsz hn
    refine ⟨fun hr => hend _ c E act w hJ (all_of_ready ht hsz hr), fun i hi => ?_⟩
    obtain ⟨o, hr⟩ := ready_of hi
    have hlt : i < listed.size := by have := hr.lt; omega
    by_cases hp : p = some i
    · obtain ⟨o', ch, s, ho', hpn, hq⟩ := hpan i hp
      rw [hr.op] at ho'; cases ho'
      exact hJ.panics hC ht hP hcall h0 h1 hr hp hpn fun E' L w' k1 k2 k3 k4 k5 k6 => hq _ c E act w E' L w' hJ k1 k2 k3 k4 k5 k6
    · refine hJ.go hC ht hP hcall h0 h1 hr hp fun c' E' act' w' hJ' => ?_
      rw [set_pred hlt] at hJ'
      refine ih _ c' E' act' w' hJ' (by simpa using hsz) ?_
      rw [set_count hlt hr.new]
      omega

theorem dropT_get : ∀ (l : List Oper) (tm : Tr AV) {t : Nat} {av : AV}, (dropT l tm).get t = some av → tm.get t = some av ∧ ∀ o ∈ l, o.dst ≠ some t
  | [], tm, t, av, h => ⟨h, fun o ho => by cases ho⟩
  | o :: l, tm, t, av, h => by
    unfold dropT at h
    obtain ⟨h1, h2⟩ := dropT_get l _ h
    cases hd : o.dst with
    | none =>
      rw [hd] at h1
      refine ⟨h1, fun o' ho' => ?_⟩
      cases ho' with
      | head => rw [hd]; simp
      | tail _ ho' => exact h2 o' ho'
    | some d =>
      rw [hd] at h1
      have h1 : (tm.put none dep d).get t = some av := h1
      rcases Tr.get_put _ _ _ _ _ _ h1 with ⟨_, h3⟩ | ⟨h3, h4⟩
      · cases h3
      · refine ⟨h4, fun o' ho' => ?_⟩
        cases ho' with
        | head => rw [hd]; simpa using Ne.symm h3
        | tail _ ho' => exact h2 o' ho'

def startDr (a : Ac) (n : Nat) : Dr :=
  { n := a.n, tm := a.tm, df := a.df, s := { a.s with next := a.s.next + n }, intro := [], eps := [], louds := [], allocs := [], reads := [] }

theorem start_ok {a : Ac} (hp : Pre C F E a.s w) (ha : ActRel E a act) (hx : a.s.next + ops.size ≤ NX) (hP : Walk C call ops a.s.next (startDr a ops.size) ds vs p) :
    J C F ops a.s.next (startDr a ops.size) ds vs p E a.s (fun _ => False) 0 E act w := by
  have h0 : ds 0 = startDr a ops.size := hP.start
  refine ⟨fun _ _ _ h => h.elim, fun _ h => h.elim, fun _ _ h => h, .inl rfl, fun _ _ h => h.elim, ?_, ?_, fun _ _ => rfl, ?_, ?_, ?_, ?_, ?_, ?_, ?_, ?_, ha.n, hp.globs⟩
  · rw [h0]; exact Nat.le_refl _
  · rw [h0]; exact hx
  · intro k _ _; exact hp.free _ (by omega)
  · rw [h0]; intro b hb; exact hp.free b (by have : a.s.next + ops.size ≤ b := hb; omega)
  · refine (InvG.of hp.inv).sub fun b ao h => ?_
    rcases h with h | ⟨k, _, h, _⟩
    · rw [h0] at h; exact h
    · exact h.elim
  · intro b _ hn; rw [h0]; exact hn
  · intro b c' κ hb hE
    rw [hp.free b hb] at hE; cases hE
  · intro k _ _
    rw [h0]
    show a.s.heap.get (a.s.next + k) = none
    cases hg : a.s.heap.get (a.s.next + k) with
    | none => rfl
    | some ao => have := get_lt hp.free hp.inv hg; omega
  · rintro t av (⟨k, h, _⟩ | ⟨_, h⟩)
    · exact h.elim
    · exact ha.slots t av h
  · rw [h0]; exact ha.df

theorem end_ok {a : Ac} (_hx : a.s.next + ops.size ≤ NX) (hP : Walk C call ops a.s.next (startDr a ops.size) ds vs none) (_hp : Pre C F E0 a.s w)
    (hJ : J C F ops a.s.next (startDr a ops.size) ds vs none E0 a.s D c E act w') (hall : ∀ k, k < ops.size → D k) :
    ActRel E { n := (ds ops.size).n, tm := (ds ops.size).tm, df := (ds ops.size).df, s := allA (ds ops.size).s (ds ops.size).intro (ds ops.size).allocs } act ∧
    Stp F E0 a.s E (allA (ds ops.size).s (ds ops.size).intro (ds ops.size).allocs) w' := by
  have hc : c ≤ ops.size := by
    rcases hJ.ccur with h | ⟨l, h1, _, h3⟩
    · omega
    · have := hJ.sub l h3; omega
  have hsame : Same (ds c) (ds ops.size) := hP.still ops.size hc (Nat.le_refl _) fun k h1 h2 hk => by
    have := hJ.clast k hk (hall k h2); omega
  have al := hP.allocs rfl ops.size (Nat.le_refl _)
  have hnext := hJ.next
  have hD : ∀ k, D k ↔ k < ops.size := fun k => ⟨hJ.sub k, hall k⟩
  have nd : ∀ k, ¬ dead ops none k := fun k ⟨q, hq, _⟩ => by cases hq
  refine ⟨⟨?_, ?_, ?_⟩, ⟨hJ.old, ?_, ?_, ?_, ?_, hJ.fresh⟩⟩
  · rw [hP.n ops.size (Nat.le_refl _)]; exact hJ.n
  · intro t av hg
    refine hJ.slots t av ?_
    rcases hP.slot ops.size (Nat.le_refl _) hg with ⟨k, k1, _, k3, k4, k5⟩ | ⟨k1, k2⟩
    · refine .inl ⟨k, (hD k).2 k1, k3, k4, fun k' hk' hd' => ?_⟩
      rcases Nat.lt_or_ge k k' with h | h
      · exact (k5 k' h ((hD k').1 hk') (nd k') hd').elim
      · exact h
    · exact .inr ⟨fun k hk => k1 k ((hD k).1 hk) (nd k), k2⟩
  · rw [hsame.df]; exact hJ.df
  · rw [allA_next, hsame.s]; omega
  · rw [allA_next, hsame.s]; exact hJ.free
  · refine hJ.inv.to fun b ao hg => ?_
    rcases allA_get _ _ _ hg with ⟨q, k1, k2, k3, k4⟩ | h
    · obtain ⟨g1, g2, g3⟩ := al q k1
      rw [hsame.intro] at k2
      subst k3 k4
      exact .inr ⟨q.1, g1, (hD _).2 g1, g3, g2, k2⟩
    · rw [hsame.s] at h; exact .inl h
  · intro b hb hn
    cases hg : (allA (ds ops.size).s (ds ops.size).intro (ds ops.size).allocs).heap.get b with
    | none => rfl
    | some x =>
      rcases allA_get _ _ _ hg with ⟨q, k1, k2, k3, k4⟩ | h
      · have := (al q k1).2.1; omega
      · rw [hsame.s, hJ.keys b hb hn] at h; cases h

theorem pan_ok {a : Ac} {q : Nat} {s : St} (_hP : Walk C call ops a.s.next (startDr a ops.size) ds vs p) (hq : q < ops.size) (hsame : (memW (Region.before ops) q (ds q)).next = (ds c).s.next)
    (hkeys : ∀ b, b < a.s.next → a.s.heap.get b = none → (memW (Region.before ops) q (ds q)).heap.get b = none)
    (hJ : J C F ops a.s.next (startDr a ops.size) ds vs p E0 a.s D c E act w) (hst : Stp (loc w E (memW (Region.before ops) q (ds q)).heap) E (memW (Region.before ops) q (ds q)) E' s w')
    (hs : ∀ b ao, (memW (Region.before ops) q (ds q)).heap.get b = some ao → GD ops a.s.next ds D c b ao) : Stp F E0 a.s E' s w' := by
  have hnext := hJ.next
  have hfs : Free E (memW (Region.before ops) q (ds q)).next := by rw [hsame]; exact hJ.free
  refine ⟨fun b hb => ?_, ?_, hst.free, ?_, ?_, ?_⟩
  · rw [hst.old b (by omega)]; exact hJ.old b hb
  · have := hst.le; omega
  · exact (hJ.inv.combine hs hfs hst (G' := fun b ao => s.heap.get b = some ao) fun b ao h => .inl h).to fun b ao h => h
  · intro b hb hn
    exact hst.keys b (by omega) (hkeys b hb hn)
  · intro b c1 κ hb hEb
    rcases Nat.lt_or_ge b (memW (Region.before ops) q (ds q)).next with h1 | h1
    · rw [hst.old b h1] at hEb; exact hJ.fresh b c1 κ hb hEb
    · rcases hst.fresh b c1 κ h1 hEb with h2 | ⟨b0, ao, h2, h3⟩
      · exact .inl (Nat.le_trans hJ.inv.size h2)
      · rcases Nat.lt_or_ge b0 a.s.next with h4 | h4
        · cases h6 : a.s.heap.get b0 with
          | none => rw [hkeys b0 h4 h6] at h2; cases h2
          | some ao0 => rw [hJ.old b0 h4] at h3; exact .inr ⟨b0, ao0, h6, h3⟩
        · exact hJ.fresh b0 c1 κ h4 h3

theorem draws_ok (hC : CtxOK P C) : Draws P C := by
  intro ih hs id ops a out h
  have hcall : CallOk P C (fun f args s => ih (.call f args s)) := fun f args s o ho => hs _ _ ho
  unfold drawRegion at h
  obtain ⟨hck, h⟩ := cond_ok h
  simp only [Bool.and_eq_true] at hck
  have ht := drawOk_text hck.1
  have hx := Nat.le_of_ble_eq_true hck.2
  obtain ⟨r, hr, h⟩ := Res.bind_ok h
  obtain ⟨ds, vs, p, hP, hend, -⟩ := drawAll_plan ht ops.toList 0 _ r rfl hr
  have hP : Walk C (fun f args s => ih (.call f args s)) ops a.s.next (startDr a ops.size) ds vs p := hP
  -- the beginning
  have begin_ : ∀ {F : Fr} {E : Blk} {w : World} {act : Act} {Q : Exit → Act → World → Prop}, Pre C F E a.s w → ActRel E a act →
      (∀ D c E' act' w', J C F ops a.s.next (startDr a ops.size) ds vs p E a.s D c E' act' w' → (∀ k, k < ops.size → D k) → Q .normal act' w') →
      (∀ q, p = some q → ∃ o ch s, ops[q]? = some o ∧ Pan C (fun f args s => ih (.call f args s)) ops q o (ds q) ch s ∧ ∀ D c E1 act w E' L w', J C F ops a.s.next (startDr a ops.size) ds vs p E a.s D c E1 act w → PRels E' ch L → Le E1 E' →
        Stp (loc w E1 (memW (Region.before ops) q (ds q)).heap) E1 (memW (Region.before ops) q (ds q)) E' s w' →
        (∀ b ao, (memW (Region.before ops) q (ds q)).heap.get b = some ao → GD ops a.s.next ds D c b ao) → (memW (Region.before ops) q (ds q)).next = (ds c).s.next → act.defers = [] → Q (.panic L) act w') →
      (Code.region id ops true).wp P Q act w := by
    intro F E w act Q hp ha h1 h2
    have hp' : Pre C F E a.s { w with drawn := w.drawn + 1 } := ⟨hp.free, hp.inv.drawn rfl rfl rfl rfl, hp.globs⟩
    have hJ := start_ok (ops := ops) hp' ha hx hP
    have hD : (fun _ => False) = fun k => (Array.replicate ops.size false).getD k false = true := by
      funext k
      have : (Array.replicate ops.size false).getD k false = false := by
        rw [Array.getD_eq_getD_getElem?, Array.getElem?_replicate]
        by_cases hk : k < ops.size
        · rw [if_pos hk]; rfl
        · rw [if_neg hk]; rfl
      rw [this]
      exact propext ⟨fun h => h.elim, fun h => by cases h⟩
    rw [hD] at hJ
    refine wp_region_any hC.mixed (any_ok hC ht hP hcall rfl rfl h1 h2 ops.size _ 0 E act _ hJ (by simp) ?_)
    have : (Array.replicate ops.size false).toList.count true = 0 := by
      rw [Array.toList_replicate, List.count_replicate]; rfl
    omega
  cases r with
  | go d =>
    cases h
    obtain ⟨rfl, hd⟩ := hend
    simp only [Nat.zero_add, Array.length_toList] at hd
    subst hd
    intro F E w act Q hp ha hQ
    refine begin_ hp ha (fun D c E' act' w' hJ hall => ?_) (fun q hq => by cases hq)
    obtain ⟨h1, h2⟩ := end_ok hx hP hp hJ hall
    exact hQ _ _ _ _ .normal h1 h2
  | pan ch s =>
    cases h
    obtain ⟨q, o, rfl, ho, hpan⟩ := hend
    intro F E w act Q hp ha hQ
    have hq : q < ops.size := (Array.getElem?_eq_some_iff.1 ho).1
    refine begin_ hp ha (fun D c E' act' w' hJ hall => (hJ.pan q rfl (hall q hq)).elim) (fun q' hq' => ?_)
    cases hq'
    refine ⟨o, ch, s, ho, hpan, fun D c E1 act1 w1 E' L w' hJ hL hle hst hsub hsn hdf => ?_⟩
    have al := hP.allocs rfl q (by omega)
    have hkeys : ∀ b, b < a.s.next → a.s.heap.get b = none → (memW (Region.before ops) q (ds q)).heap.get b = none := by
      intro b hb hn
      cases hg : (memW (Region.before ops) q (ds q)).heap.get b with
      | none => rfl
      | some x =>
        rcases hsub b x hg with h | ⟨k, _, _, _, h, _⟩
        · rw [hJ.keys b hb hn] at h; cases h
        · omega
    refine hQ E' _ act1 w' (.panic hL) ⟨hJ.n, ?_, ?_⟩ (pan_ok hP hq hsn hkeys hJ hst hsub)
    · intro t av hg
      obtain ⟨g1, g2⟩ := dropT_get _ _ hg
      refine (hJ.slots t av (.inr ⟨fun k hk hd' => ?_, g1⟩)).mono hle
      obtain ⟨ok, hok⟩ := some_of_lt (hJ.sub k hk)
      exact g2 ok (by
        have := Array.mem_of_getElem? hok
        simpa using this) (by simpa [dstOf, hok] using hd')
    · rw [hdf]; exact .nil

/-- the evaluator's word on a call -/
theorem sound (hC : CtxOK P C) (hH : Hooks P C) (n : Nat) : Sound P C (ev C n) := ev_ok hC (draws_ok hC) hH n

end
end Go.Ab
