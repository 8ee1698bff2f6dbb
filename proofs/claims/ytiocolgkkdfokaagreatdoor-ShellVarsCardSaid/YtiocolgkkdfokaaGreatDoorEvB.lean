/-
  The abstract evaluator: the laws of single operations. No condition.
-/
import Derived.Lib.UnsafeStr
import Derived.Conc.AtomicLaws2
import Derived.Laws.Externs
import Derived.Room.MakeNoZero
import Derived.Test.YtiocolgkkdfokaaGreatDoorEvA
/-! Maps, literals, lengths. -/
namespace Go.Ab
variable {P : Program} {C : Ctx} (hC : CtxOK P C) {F : Fr} {E : Blk} {w : World}

theorem sameKey_ok {kd : TypeDesc} {x y : AV} {vx vy : Value} {r : Bool} (hx : Rel E x vx) (hy : Rel E y vy) (hf : keyFits kd x = true) (h : sameKey x y = some r) :
    Instr.sameNow kd vx vy = some r := by
  unfold sameKey at h
  split at h
  · cases hx; cases hy
    rename_i k a k' b
    cases hk : decide (k = k') with
    | true =>
      rw [hk] at h
      have := of_decide_eq_true hk
      subst this
      simp only [cond_true, Option.some.injEq] at h
      subst h
      cases kd <;> first | (simp [keyFits] at hf; done) | simp [Instr.sameNow, ieq_eq]
    | false => rw [hk] at h; cases h
  · cases hx; cases hy
    simp only [Option.some.injEq] at h
    subst h
    cases kd <;> first | (simp [keyFits] at hf; done) | simp [Instr.sameNow, beq8_eq, beq_str]
  · cases hx; cases hy
    simp only [Option.some.injEq] at h
    subst h
    cases kd <;> first | (simp [keyFits] at hf; done) | simp [Instr.sameNow]
  · cases h

inductive Found (E : Blk) : Option (Nat × AV) → Option (Nat × Value) → Prop
  | none : Found E none none
  | some {i : Nat} {a : AV} {v : Value} (h : Rel E a v) : Found E (some (i, a)) (some (i, v))

theorem findA_ok {kd : TypeDesc} {k : AV} {vk : Value} (hk : Rel E k vk) (hf : keyFits kd k = true) : ∀ {l : List (AV × AV × Nat)} {es : List MapEntry} {i : Nat} {r : Option (Nat × AV)},
    ERel E l es → findA k l i = .ok r → ∃ r', Instr.findNow kd vk es i = some r' ∧ Found E r r'
  | _, _, _, _, .nil, h => by cases h; exact ⟨none, rfl, .none⟩
  | _, _, i, r, .cons (e := e) (es := es) h1 h2 h3 t, h => by
    unfold findA at h
    split at h
    · rename_i hs
      cases h
      exact ⟨some (i, e.val), by simp [Instr.findNow, sameKey_ok hk h1 hf hs], .some h2⟩
    · rename_i hs
      obtain ⟨r', g1, g2⟩ := findA_ok hk hf t h
      exact ⟨r', by simp [Instr.findNow, sameKey_ok hk h1 hf hs, g1], g2⟩
    · cases h

include hC in
theorem mapKE_ok {t kt et : TypeId} (h : mapKE C t = .ok (kt, et)) : ∃ kd, (underlying t).run P w = .ok (.map kt et) w ∧ C.under kt = .ok kd ∧ plainKey kd = true := by
  obtain ⟨d, hd, h1⟩ := Res.bind_ok h
  split at h1
  · rename_i k e
    obtain ⟨kd, hkd, h2⟩ := Res.bind_ok h1
    obtain ⟨h3, h4⟩ := cond_ok h2
    cases h4
    exact ⟨kd, run_under hC hd, hkd, h3⟩
  · cases h1

theorem entriesOf_ok {s : St} {b : Nat} {p : List (AV × AV × Nat) × Nat} (h : Inv F E s.heap w) (he : entriesOf s b = .ok p) :
    ∃ c κ xs, s.heap.get b = some (.map p.1 p.2) ∧ E b = some (c, κ) ∧ w.heap[c]? = some (.map xs p.2) ∧ ERel E p.1 xs.toList := by
  unfold entriesOf at he
  split at he
  · rename_i es cl hb
    cases he
    obtain ⟨c, κ, o, h1, h2, xs, rfl, h3⟩ := h.obj _ _ hb
    exact ⟨c, κ, xs, hb, h1, h2, h3⟩
  · cases he

theorem run_getObj_map {c : Nat} {xs : Array MapEntry} {cl : Nat} (h : w.heap[c]? = some (.map xs cl)) : (getObj c).run P w = .ok (.map xs cl) w := by
  simp [getObj, Sem.run, h]

include hC in
theorem run_checkKey {kt : TypeId} {kd : TypeDesc} {k : AV} {vk : Value} (hkd : C.under kt = .ok kd) (hp : plainKey kd = true) (hk : Rel E k vk) (hf : keyFits kd k = true) (b : Bool) :
    (Instr.checkKey b 10000 kt vk).run P w = .ok () w := by
  unfold Instr.checkKey
  simp only [Sem.run_bind, run_under hC hkd, Result.andThen_ok]
  cases kd <;> simp [plainKey] at hp <;> cases hk <;> simp [keyFits] at hf <;> simp

include hC in
theorem run_findKey {kt : TypeId} {kd : TypeDesc} {vk : Value} {es : List MapEntry} {r : Option (Nat × Value)} (hkd : C.under kt = .ok kd) (h : Instr.findNow kd vk es 0 = some r) :
    (Instr.findKey kt vk es).run P w = .ok r w := by
  unfold Instr.findKey
  simp only [Sem.run_bind, run_under hC hkd, Result.andThen_ok, h, Sem.run_pure]

include hC in
theorem lookupA_ok {s : St} {t : TypeId} {x k v : AV} {vx vk : Value} {ok : Bool} (h : Inv F E s.heap w) (hx : Rel E x vx) (hk : Rel E k vk)
    (he0 : lookupA C s t x k ok = .ok v) : Gives P E w (Instr.lookup t vx vk ok) v := by
  obtain ⟨⟨kt, et⟩, hke, he1⟩ := Res.bind_ok he0
  obtain ⟨kd, hkd, he2⟩ := Res.bind_ok he1
  obtain ⟨hf, he3⟩ := cond_ok he2
  obtain ⟨es, hes, he4⟩ := Res.bind_ok he3
  obtain ⟨r, hr, he5⟩ := Res.bind_ok he4
  clear he0 he1 he2 he3 he4
  obtain ⟨kd', hu, hkd', hp⟩ := mapKE_ok hC (w := w) hke
  rw [hkd] at hkd'; cases hkd'
  have key : ∀ b, (Instr.checkKey b 10000 kt vk).run P w = .ok () w := fun b => run_checkKey hC hkd hp hk hf b
  have fin : ∀ (xs : Array MapEntry), ERel E es xs.toList → ∃ r', (Instr.findKey kt vk xs.toList).run P w = .ok r' w ∧ Found E r r' := fun xs hxs => by
    obtain ⟨r', hr1, hr2⟩ := findA_ok hk hf hxs hr
    exact ⟨r', run_findKey hC hkd hr1, hr2⟩
  have two : ∀ (a : AV) (va : Value) (b : Bool), Rel E a va → Rel E (cond ok (.tuple [a, .bool b]) a) (if ok then .tuple #[va, .bool b] else va) := fun a va b ha => by
    cases ok
    · simpa using ha
    · simp only [if_true, cond_true]; exact .tuple (.cons ha (.cons (.bool _) .nil))
  have hes' : (∃ hn : x = .map none, es = []) ∨ ∃ b c xs cl, x = .map (some b) ∧ vx = .map (some c) ∧ w.heap[c]? = some (.map xs cl) ∧ ERel E es xs.toList := by
    simp only at hes
    split at hes
    · cases hes; exact .inl ⟨rfl, rfl⟩
    · rename_i b
      obtain ⟨p, hp1, hp2⟩ := Res.bind_ok hes
      cases hp2
      obtain ⟨c, κ, xs, g0, g1, g2, g3⟩ := entriesOf_ok h hp1
      cases hx with | map hE =>
      rw [g1] at hE; cases hE
      exact .inr ⟨b, c, xs, p.2, rfl, rfl, g2, g3⟩
    · cases hes
  unfold Instr.lookup
  rcases hes' with ⟨rfl, rfl⟩ | ⟨b, c, xs, cl, rfl, rfl, g2, g3⟩
  · cases hx
    cases hr
    obtain ⟨z, hz, he6⟩ := Res.bind_ok he5
    cases he6
    obtain ⟨vz, hz1, hz2⟩ := run_zero hC (E := E) hz
    refine ⟨_, ?_, two _ _ _ hz1⟩
    obtain ⟨r', f1, f2⟩ := fin #[] .nil
    cases f2
    simp only [Sem.run_bind, hu, Result.andThen_ok, Sem.run_pure, key, f1, hz2]
  · obtain ⟨r', f1, f2⟩ := fin xs g3
    cases f2 with
    | some hv =>
      simp only at he5
      cases he5
      refine ⟨_, ?_, two _ _ _ hv⟩
      simp only [Sem.run_bind, hu, Result.andThen_ok, Sem.run_pure, run_getObj_map g2, key, f1]
    | none =>
      simp only at he5
      obtain ⟨z, hz, he6⟩ := Res.bind_ok he5
      cases he6
      obtain ⟨vz, hz1, hz2⟩ := run_zero hC (E := E) hz
      refine ⟨_, ?_, two _ _ _ hz1⟩
      simp only [Sem.run_bind, hu, Result.andThen_ok, Sem.run_pure, run_getObj_map g2, key, f1, hz2]

/-! lengths -/
include hC in
theorem lenA_ok {s : St} {t : TypeId} {x v : AV} {vx : Value} (h : Inv F E s.heap w) (hx : Rel E x vx) (ts : Array TypeId) (xs : Array Value) (ty : TypeId)
    (ht : ts[0]? = some t) (hxs : xs[0]? = some vx) (he0 : lenA C s t x = .ok v) : Gives P E w (Builtin.len_ ts ty xs) v := by
  obtain ⟨d, hd, he⟩ := Res.bind_ok he0
  clear he0
  have hu := run_under hC (w := w) hd
  unfold Builtin.len_
  split at he
  · cases hx; cases he
    exact ⟨_, by simp only [ht, hxs, Sem.run_bind, hu, Result.andThen_ok]; rfl, .int _ _⟩
  · cases he
    exact ⟨_, by simp only [ht, hxs, Sem.run_bind, hu, Result.andThen_ok]; rfl, .int _ _⟩
  · cases hx; cases he
    exact ⟨_, by simp only [ht, hxs, Sem.run_bind, hu, Result.andThen_ok]; rfl, .int _ _⟩
  · cases hx; cases he
    exact ⟨_, by simp only [ht, hxs, Sem.run_bind, hu, Result.andThen_ok]; rfl, .int _ _⟩
  · cases hx; cases he
    exact ⟨_, by simp only [ht, hxs, Sem.run_bind, hu, Result.andThen_ok]; rfl, .int _ _⟩
  · cases hx; cases he
    exact ⟨_, by simp only [ht, hxs, Sem.run_bind, hu, Result.andThen_ok]; rfl, .int _ _⟩
  · cases hx; cases he
    exact ⟨_, by simp only [ht, hxs, Sem.run_bind, hu, Result.andThen_ok]; rfl, .int _ _⟩
  · cases hx; cases he
    exact ⟨_, by simp only [ht, hxs, Sem.run_bind, hu, Result.andThen_ok]; rfl, .int _ _⟩
  · rename_i b
    obtain ⟨p, hp1, hp2⟩ := Res.bind_ok he
    cases hp2
    obtain ⟨c, κ, es, g0, g1, g2, g3⟩ := entriesOf_ok h hp1
    cases hx with | map hE =>
    rw [g1] at hE; cases hE
    have hl : p.1.length = es.size := by
      have : ∀ {l : List (AV × AV × Nat)} {es : List MapEntry}, ERel E l es → l.length = es.length := by
        intro l es h
        induction h with
        | nil => rfl
        | cons _ _ _ _ ih => simp [ih]
      simpa using this g3
    exact ⟨_, by simp only [ht, hxs, Sem.run_bind, hu, Result.andThen_ok, run_getObj_map g2]; rfl, by rw [hl]; exact .int _ _⟩
  · cases he

include hC in
theorem capA_ok {t : TypeId} {x v : AV} {vx : Value} (hx : Rel E x vx) (ts : Array TypeId) (xs : Array Value) (ty : TypeId)
    (ht : ts[0]? = some t) (hxs : xs[0]? = some vx) (he0 : capA C t x = .ok v) : Gives P E w (Builtin.cap_ ts ty xs) v := by
  obtain ⟨d, hd, he⟩ := Res.bind_ok he0
  clear he0
  have hu := run_under hC (w := w) hd
  unfold Builtin.cap_
  split at he
  · cases he
    exact ⟨_, by simp only [ht, hxs, Sem.run_bind, hu, Result.andThen_ok]; rfl, .int _ _⟩
  · cases hx; cases he
    exact ⟨_, by simp only [ht, hxs, Sem.run_bind, hu, Result.andThen_ok]; rfl, .int _ _⟩
  · cases hx; cases he
    exact ⟨_, by simp only [ht, hxs, Sem.run_bind, hu, Result.andThen_ok]; rfl, .int _ _⟩
  · cases he

theorem foldMin_ok : ∀ {l : List AV} {x v : AV} {vx : Value} {vl : List Value}, Rel E x vx → Rels E l vl → foldMin x l = .ok v → Gives P E w (vl.foldlM Builtin.min2 vx) v
  | [], x, v, vx, vl, hx, hl, h => by cases h; cases hl; exact ⟨vx, by simp, hx⟩
  | y :: l, x, v, vx, vl, hx, hl, h => by
    unfold foldMin at h
    split at h
    · rename_i heq; cases heq
    · rename_i k a k' b l' heq
      cases heq
      cases hx
      cases hl with | cons h1 h2 =>
      cases h1
      obtain ⟨z, g1, g2⟩ := foldMin_ok (.int k _) h2 h
      refine ⟨z, ?_, g2⟩
      simp only [List.foldlM_cons, Sem.run_bind, Builtin.min2, Sem.run_pure, Result.andThen_ok]
      rw [← g1, ile_eq]
      congr 3
      by_cases hab : a ≤ b
      · simp [hab, Int.not_lt.2 hab]
      · simp [hab, Int.not_le.1 hab]
    · cases h

theorem foldMax_ok : ∀ {l : List AV} {x v : AV} {vx : Value} {vl : List Value}, Rel E x vx → Rels E l vl → foldMax x l = .ok v → Gives P E w (vl.foldlM Builtin.max2 vx) v
  | [], x, v, vx, vl, hx, hl, h => by cases h; cases hl; exact ⟨vx, by simp, hx⟩
  | y :: l, x, v, vx, vl, hx, hl, h => by
    unfold foldMax at h
    split at h
    · rename_i heq; cases heq
    · rename_i k a k' b l' heq
      cases heq
      cases hx
      cases hl with | cons h1 h2 =>
      cases h1
      obtain ⟨z, g1, g2⟩ := foldMax_ok (.int k _) h2 h
      refine ⟨z, ?_, g2⟩
      simp only [List.foldlM_cons, Sem.run_bind, Builtin.max2, Sem.run_pure, Result.andThen_ok]
      rw [← g1, ile_eq]
      congr 3
      by_cases hab : b ≤ a
      · have : ¬ b > a := by omega
        simp [hab, this]
      · have : b > a := by omega
        simp [hab, this]
    · cases h

/-! literals -/
theorem foldl_set : ∀ (vs : List Value) (off j : Nat) (xs : Array Value), off + j + vs.length ≤ xs.size →
    ((vs.zipIdx j).foldl (fun cs (p : Value × Nat) => cs.setIfInBounds (off + p.2) p.1) xs) =
      (xs.toList.take (off + j) ++ vs ++ xs.toList.drop (off + j + vs.length)).toArray := by
  intro vs
  induction vs with
  | nil => intro off j xs _; simp
  | cons v vs ih =>
    intro off j xs h
    simp only [List.length_cons] at h
    simp only [List.zipIdx_cons, List.foldl_cons]
    rw [ih off (j + 1) _ (by simp; omega)]
    have hl : off + j < xs.toList.length := by simp; omega
    have e1 : (xs.setIfInBounds (off + j) v).toList = xs.toList.set (off + j) v := by simp
    have e2 : (xs.toList.set (off + j) v).take (off + (j + 1)) = xs.toList.take (off + j) ++ [v] := by
      rw [← Nat.add_assoc, List.take_add_one, List.take_set_of_le (by omega)]
      simp [List.getElem?_set_self hl]
    have e3 : (xs.toList.set (off + j) v).drop (off + (j + 1) + vs.length) = xs.toList.drop (off + j + (vs.length + 1)) := by
      rw [List.drop_set_of_lt (by omega)]
      congr 1; omega
    rw [e1, e2, e3]
    simp

theorem Rels.splice {l vs r : List AV} {xs ys : List Value} {o : Nat} (h : Rels E l xs) (hv : Rels E vs ys) (hs : Ab.splice l o vs = .ok r) :
    Rels E r (xs.take o ++ ys ++ xs.drop (o + ys.length)) ∧ o + ys.length ≤ xs.length := by
  obtain ⟨h1, h2⟩ := splice_ok hs
  have e1 := h.length
  have e2 := hv.length
  rw [h1, e2]
  exact ⟨((h.take o).append hv).append (h.drop _), by omega⟩

inductive RelP (E : Blk) : List (Nat × AV) → List (Nat × Value) → Prop
  | nil : RelP E [] []
  | cons {i : Nat} {a : AV} {v : Value} {l : List (Nat × AV)} {vs : List (Nat × Value)} (h : Rel E a v) (t : RelP E l vs) : RelP E ((i, a) :: l) ((i, v) :: vs)

theorem fillA_ok {place place' : Nat → Option (Nat × Nat)} (hp : ∀ i p, place i = some p → place' i = some p) : ∀ {l : List (Nat × AV)} {vs : List (Nat × Value)} {cells r : List AV} {xs : List Value},
    RelP E l vs → Rels E cells xs → fillA place cells l = .ok r → ∃ ys, Instr.fill place' xs.toArray vs = some ys.toArray ∧ Rels E r ys
  | _, _, _, _, xs, .nil, hx, h => by cases h; exact ⟨xs, rfl, hx⟩
  | _, _, cells, r, xs, .cons (i := i) (a := a) (v := v) h1 t, hx, h => by
    unfold fillA at h
    split at h
    · cases h
    · rename_i o z hpl
      simp only at h
      obtain ⟨h2, h3⟩ := cond_ok h
      obtain ⟨cs, h4, h5⟩ := Res.bind_ok h3
      obtain ⟨g1, g2⟩ := hx.splice h1.cells h4
      obtain ⟨ys, g3, g4⟩ := fillA_ok hp t g1 h5
      refine ⟨ys, ?_, g4⟩
      have hlen : v.cells.size = z := by
        have := h1.cells.length
        rw [← beq_true h2, this]; simp
      unfold Instr.fill
      simp only [hp _ _ hpl]
      have hc : ¬ ((v.cells.size ≠ z || decide (o + v.cells.size > xs.toArray.size)) = true) := by
        simp at g2
        simp [hlen]; omega
      rw [if_neg hc, ← g3]
      congr 1
      rw [← Array.foldl_toList, Array.toList_zipIdx]
      have := foldl_set v.cells.toList o 0 xs.toArray (by simpa using g2)
      simpa using this

include hC in
theorem fieldPlaces_ok : ∀ {fs : List Field} {l : List (Nat × Nat)}, fieldPlaces C fs = .ok l →
    (fs.mapM (fun f => do pure (f.offset, ← sizeOf f.type) : Field → Sem (Nat × Nat))).run P w = .ok l w
  | [], _, h => by cases h; simp
  | f :: fs, _, h => by
    obtain ⟨z, hz, h1⟩ := Res.bind_ok h
    obtain ⟨l, hl, h2⟩ := Res.bind_ok h1
    cases h2
    have ih := fieldPlaces_ok hl
    simp only [List.mapM_cons, Sem.run_bind, run_sz hC hz, Result.andThen_ok, Sem.run_pure, ih]

include hC in
theorem buildA_ok {t : TypeId} {l : List (Nat × AV)} {vs : List (Nat × Value)} {v : AV} (hl : RelP E l vs) (h : buildA C t l = .ok v) :
    Gives P E w (Instr.build t vs.toArray) v := by
  obtain ⟨z, hz, h1⟩ := Res.bind_ok h
  obtain ⟨d, hd, h2⟩ := Res.bind_ok h1
  clear h h1
  obtain ⟨vz, g1, g2⟩ := run_zero hC (E := E) hz
  have hu := run_under hC (w := w) hd
  split at h2
  · rename_i fs
    obtain ⟨ps, hps, h3⟩ := Res.bind_ok h2
    obtain ⟨cs, hcs, h4⟩ := Res.bind_ok h3
    cases h4
    obtain ⟨ys, f1, f2⟩ := fillA_ok (place' := (ps.toArray[·]?)) (fun i p hp => by rw [lget_eq] at hp; simpa using hp) hl g1.cells hcs
    refine ⟨.agg ys.toArray, ?_, .agg f2⟩
    have this := fieldPlaces_ok hC (w := w) hps
    have hm : (fs.mapM (fun f => do pure (f.offset, ← sizeOf f.type) : Field → Sem (Nat × Nat))).run P w = .ok ps.toArray w := by
      rw [Array.mapM_eq_mapM_toList, Sem.run_map, this]; rfl
    simp only [Array.toArray_toList] at f1
    simp only [Instr.build, Sem.run_bind, g2, hu, Result.andThen_ok, hm, f1, Sem.run_pure]
  · rename_i n e
    obtain ⟨sz, hsz, h3⟩ := Res.bind_ok h2
    obtain ⟨cs, hcs, h4⟩ := Res.bind_ok h3
    cases h4
    obtain ⟨ys, f1, f2⟩ := fillA_ok (place' := fun i => some (i * sz, sz)) (fun i p hp => hp) hl g1.cells hcs
    refine ⟨.agg ys.toArray, ?_, .agg f2⟩
    simp only [Array.toArray_toList] at f1
    simp [Instr.build, g2, hu, run_sz hC hsz, f1]
  · cases h2
end Go.Ab

/-! The operations that write memory, or make some. -/
namespace Go.Ab
variable {P : Program} {C : Ctx} (hC : CtxOK P C) {F : Fr} {E : Blk} {w : World}

def Free (E : Blk) (n : Nat) : Prop := ∀ b, n ≤ b → E b = none

structure Stp (F : Fr) (E : Blk) (s : St) (E' : Blk) (s' : St) (w' : World) : Prop where
  old : ∀ b, b < s.next → E' b = E b
  le : s.next ≤ s'.next
  free : Free E' s'.next
  inv : Inv F E' s'.heap w'
  keys : ∀ b, b < s.next → s.heap.get b = none → s'.heap.get b = none
  fresh : ∀ b c κ, s.next ≤ b → E' b = some (c, κ) → F.w0.heap.size ≤ c ∨ ∃ b0 ao, s.heap.get b0 = some ao ∧ E b0 = some (c, κ)

theorem le_of_old {E E' : Blk} {n : Nat} (hf : Free E n) (h : ∀ b, b < n → E' b = E b) : Le E E' := fun b p hb => by
  rcases Nat.lt_or_ge b n with hlt | hge
  · rw [h b hlt]; exact hb
  · rw [hf b hge] at hb; cases hb

theorem Stp.Le {s s' : St} {E' : Blk} {w' : World} (h : Stp F E s E' s' w') (hf : Free E s.next) : Le E E' := le_of_old hf h.old

theorem Stp.refl {s : St} (hf : Free E s.next) (h : Inv F E s.heap w) : Stp F E s E s w :=
  ⟨fun _ _ => rfl, Nat.le_refl _, hf, h, fun _ _ h => h, fun b c κ hb hE => by rw [hf b hb] at hE; cases hE⟩

theorem get_lt {s : St} (hf : Free E s.next) (hi : Inv F E s.heap w) {b : Nat} {ao : AO} (h : s.heap.get b = some ao) : b < s.next := by
  rcases Nat.lt_or_ge b s.next with h1 | h1
  · exact h1
  · obtain ⟨c, κ, o, h2, _⟩ := hi.obj b ao h
    rw [hf b h1] at h2; cases h2

/-- a block has been written -/
theorem Stp.set {s : St} {w' : World} {b : Nat} {ao ao' : AO} (hf : Free E s.next) (hb : s.heap.get b = some ao) (h : Inv F E (s.set b ao').heap w') : Stp F E s E (s.set b ao') w' :=
  ⟨fun _ _ => rfl, Nat.le_refl _, hf, h, (fun k hk hn => by
    cases hg : (s.set b ao').heap.get k with
    | none => rfl
    | some x =>
      rcases put_some hg with ⟨h1, h2⟩ | ⟨h1, h2⟩
      · subst h1; rw [hb] at hn; cases hn
      · rw [hn] at h2; cases h2), (fun k c κ hk hE => by rw [hf k hk] at hE; cases hE)⟩

theorem Stp.trans {s s' s'' : St} {E' E'' : Blk} {w' w'' : World} (h : Stp F E s E' s' w') (h' : Stp F E' s' E'' s'' w'') : Stp F E s E'' s'' w'' :=
  ⟨fun b hb => by rw [h'.old b (by have := h.le; omega), h.old b hb], Nat.le_trans h.le h'.le, h'.free, h'.inv,
    fun b hb hn => h'.keys b (by have := h.le; omega) (h.keys b hb hn), fun b c κ hb hE => by
      rcases Nat.lt_or_ge b s'.next with h1 | h1
      · rw [h'.old b h1] at hE; exact h.fresh b c κ hb hE
      · rcases h'.fresh b c κ h1 hE with h2 | ⟨b0, ao, h2, h3⟩
        · exact .inl h2
        · rcases Nat.lt_or_ge b0 s.next with h4 | h4
          · cases hg : s.heap.get b0 with
            | none => rw [h.keys b0 h4 hg] at h2; cases h2
            | some ao0 => rw [h.old b0 h4] at h3; exact .inr ⟨b0, ao0, hg, h3⟩
          · exact h.fresh b0 c κ h4 h3⟩

/-- an expression that comes to a value for v in a world for s' -/
def Does (P : Program) (F : Fr) (E : Blk) (s : St) (w : World) (sm : Sem Value) (v : AV) (s' : St) : Prop :=
  ∃ x w' E', sm.run P w = .ok x w' ∧ Rel E' v x ∧ Stp F E s E' s' w'

def DoesU (P : Program) (F : Fr) (E : Blk) (s : St) (w : World) (sm : Sem Unit) (s' : St) : Prop :=
  ∃ w' E', sm.run P w = .ok () w' ∧ Stp F E s E' s' w'

theorem Gives.does {s : St} {sm : Sem Value} {v : AV} (h : Gives P E w sm v) (hf : Free E s.next) (hi : Inv F E s.heap w) : Does P F E s w sm v s := by
  obtain ⟨x, h1, h2⟩ := h
  exact ⟨x, w, E, h1, h2, .refl hf hi⟩

/-- a new object -/
theorem Stp.new {s : St} {ao : AO} {o : Obj} {w' : World} {κ : Nat} (hf : Free E s.next) (hi : Inv F E s.heap w)
    (hw : w'.heap = w.heap.push o) (hr : ORel (upd E s.next (w.heap.size, κ)) κ ao o) (ht : w'.tape = w.tape) (hos : w'.os = w.os) (hout : w'.output = w.output) :
    Stp F E s (upd E s.next (w.heap.size, κ)) (s.new ao) w' where
  old := fun b hb => upd_other _ _ (by omega)
  le := Nat.le_succ _
  free := fun b hb => by
    have : s.next + 1 ≤ b := hb
    rw [upd_other _ _ (by omega)]; exact hf b (by omega)
  inv := Inv.push hi (hf _ (Nat.le_refl _)) hw hr ht hos hout
  keys := fun b hb hn => by
    cases hg : (s.new ao).heap.get b with
    | none => rfl
    | some x =>
      rcases put_some hg with ⟨h1, h2⟩ | ⟨h1, h2⟩
      · omega
      · rw [hn] at h2; cases h2
  fresh := fun b c κ' hb hE => by
    by_cases h1 : b = s.next
    · subst h1; rw [upd_same] at hE; cases hE; exact .inl hi.size
    · rw [upd_other _ _ h1, hf b hb] at hE; cases hE

theorem exactCells {E : Blk} {cs : List AV} {xs : List Value} (h : Rels E cs xs) (κ : Nat) (e : TypeId) : CellsRel E κ cs e none .clean (.cells xs.toArray e (0, 0)) :=
  ⟨xs, [], 0, 0, by simp, h, fun _ => rfl, fun z hz => (by cases hz), rfl⟩

theorem flexCells {E : Blk} {cs : List AV} {xs zs : List Value} (h : Rels E cs xs) (κ : Nat) (e : TypeId) (z : Nat) (m : Md) (hn : xs.length + zs.length = κ * z) (lo hi : Nat) (hm : frozenFits m (xs.length + zs.length) lo hi) :
    CellsRel E κ cs e (some z) m (.cells (xs ++ zs).toArray e (lo, hi)) :=
  ⟨xs, zs, lo, hi, rfl, h, fun h => by (cases h), fun z' hz => (by cases hz; exact hn), hm⟩

theorem newRow_ok {s : St} {cs : List AV} {xs : List Value} {e : TypeId} (hf : Free E s.next) (hi : Inv F E s.heap w) (h : Rels E cs xs) :
    Does P F E s w (do pure (.pointer (some (← Go.newRow e xs.toArray)))) (newRow s e cs).1 (newRow s e cs).2 := by
  have hle := upd_le (w.heap.size, 0) (hf _ (Nat.le_refl s.next))
  refine ⟨.pointer (some ⟨w.heap.size, 0, none⟩), { w with heap := w.heap.push (.cells xs.toArray e) }, upd E s.next (w.heap.size, 0), ?_, .ptr 0 (upd_same _ _ _), ?_⟩
  · simp [Go.newRow]
  · exact Stp.new hf hi rfl (exactCells (h.mono hle) _ _) rfl rfl rfl

theorem box_ok {s : St} {v : AV} {x : Value} {e : TypeId} (hf : Free E s.next) (hi : Inv F E s.heap w) (h : Rel E v x) :
    Does P F E s w (Instr.box e x) (newRow s e v.cells).1 (newRow s e v.cells).2 := by
  have := newRow_ok (P := P) (e := e) hf hi h.cells
  simpa [Instr.box, newVar] using this

include hC in
theorem alloc_ok {s : St} {z : AV} {e : TypeId} (hf : Free E s.next) (hi : Inv F E s.heap w) (hz : C.zero e = .ok z) :
    Does P F E s w (Instr.alloc e true (.tuple #[])) (newRow s e z.cells).1 (newRow s e z.cells).2 := by
  obtain ⟨x, h1, h2⟩ := run_zero hC (E := E) hz
  have := newRow_ok (P := P) (e := e) hf hi h1.cells
  obtain ⟨y, w', E', g1, g2, g3⟩ := this
  refine ⟨y, w', E', ?_, g2, g3⟩
  rw [← g1]
  simp [Instr.alloc, h2, newVar]

theorem rep_length {α : Type} (l : List α) : ∀ n, (rep n l).length = n * l.length
  | 0 => by simp [rep]
  | n + 1 => by simp [rep, rep_length l n, Nat.succ_mul]; omega

theorem Rels.rep {l : List AV} {xs : List Value} (h : Rels E l xs) : ∀ n, Rels E (Ab.rep n l) (Ab.rep n xs)
  | 0 => .nil
  | n + 1 => h.append (Rels.rep h n)

theorem rep_get {α : Type} [Inhabited α] (l : List α) : ∀ (n i : Nat), i < n * l.length → (rep n l)[i]? = some (l[i % l.length]!)
  | 0, i, h => by simp at h
  | n + 1, i, h => by
    have hpos : 0 < l.length := by
      rcases Nat.eq_zero_or_pos l.length with h0 | h0
      · rw [h0] at h; simp at h
      · exact h0
    simp only [rep]
    rcases Nat.lt_or_ge i l.length with hlt | hge
    · rw [List.getElem?_append_left hlt, Nat.mod_eq_of_lt hlt, List.getElem?_eq_getElem hlt]
      simp [hlt]
    · rw [List.getElem?_append_right hge, rep_get l n (i - l.length) (by rw [Nat.succ_mul] at h; omega)]
      rw [Nat.mod_eq_sub_mod hge]

theorem zeros_eq (z : Array Value) (n : Nat) : (Array.range (n * z.size)).map (fun i => z[i % z.size]!) = (rep n z.toList).toArray := by
  apply Array.ext_getElem?
  intro i
  simp only [Array.getElem?_map, List.getElem?_toArray]
  by_cases h : i < n * z.size
  · rw [rep_get _ _ _ (by simpa using h)]
    have : (Array.range (n * z.size))[i]? = some i := by simp [h]
    rw [this]
    simp [Array.getElem!_eq_getD, Array.getD_eq_getD_getElem?]
  · have h1 : (Array.range (n * z.size))[i]? = none := by simp; omega
    have h2 : (rep n z.toList)[i]? = none := by rw [List.getElem?_eq_none]; rw [rep_length]; simp; omega
    rw [h1, h2]; rfl

include hC in
theorem zeroE_ok {e : TypeId} {p : List AV × Nat} (h : zeroE C e = .ok p) : ∃ (vz : Value) (i : TypeInfo), (∀ w, (zeroValue e).run P w = .ok vz w) ∧ Rels E p.1 vz.cells.toList ∧
    vz.cells.size = p.2 ∧ 0 < p.2 ∧ (∀ w, (typeInfo e).run P w = .ok i w) ∧ i.bytes ≤ 1000000 ∧ ∀ w, (sizeOf e).run P w = .ok p.2 w := by
  obtain ⟨i, hi, h1⟩ := Res.bind_ok h
  obtain ⟨z, hz, h2⟩ := Res.bind_ok h1
  obtain ⟨h3, h4⟩ := cond_ok h2
  cases h4
  simp only [Bool.and_eq_true] at h3
  obtain ⟨⟨h5, h6⟩, h7⟩ := h3
  obtain ⟨vz, g1, g2⟩ := run_zero hC (E := E) hz
  have hi := Res.ofOpt_ok hi
  refine ⟨vz, i, g2, g1.cells, ?_, ?_, fun w => run_info hC hi, Nat.le_of_ble_eq_true h6, fun w => ?_⟩
  · have := g1.cells.length
    have h5 := beq_true h5
    simp at this; simp; omega
  · simp only [Nat.blt, Nat.ble_eq] at h7; simp; omega
  · simp [sizeOf, run_info hC hi]

include hC in
theorem zeros_ok {e : TypeId} {n : Nat} {zs : List AV} (h : zerosA C e n = .ok zs) : ∃ (vz : Value) (sz : Nat) (i : TypeInfo), (∀ w, (zeroValue e).run P w = .ok vz w) ∧
    (∀ w, (sizeOf e).run P w = .ok sz w) ∧ 0 < sz ∧ vz.cells.size = sz ∧ (∀ w, (typeInfo e).run P w = .ok i w) ∧ i.bytes ≤ 1000000 ∧
    ∃ ys, Rels E zs ys ∧ ys.length = n * sz ∧ Builtin.zeroCells vz.cells n = ys.toArray ∧ ys = rep n vz.cells.toList := by
  obtain ⟨z, hz, h1⟩ := Res.bind_ok h
  cases h1
  obtain ⟨vz, i, g1, g2, g3, g4, g5, g6, g7⟩ := zeroE_ok hC (E := E) hz
  exact ⟨vz, z.2, i, g1, g7, g4, g3, g5, g6, _, g2.rep n, by rw [rep_length]; simp [g3], by rw [Builtin.zeroCells, zeros_eq], rfl⟩

theorem storeN_ok {s s' : St} {b o : Nat} {vs : List AV} {xs : List Value} (hf : Free E s.next) (hi : Inv F E s.heap w) (hv : Rels E vs xs) (h : storeN s b o vs = .ok s') :
    ∃ c κ, E b = some (c, κ) ∧ ∃ w', (storeCells ⟨c, o, none⟩ xs).run P w = .ok () w' ∧ Stp F E s E s' w' := by
  unfold storeN at h
  split at h
  · rename_i cs e f m hb
    split at h
    · cases h
    · rename_i hm
      obtain ⟨h1, h2⟩ := cond_ok h
      obtain ⟨r, h3, h4⟩ := Res.bind_ok h2
      cases h4
      obtain ⟨c, κ, ys, zs, lo, hi', g1, g2, g3, g4, g5, g6⟩ := hi.cells hb
      obtain ⟨g7, g8⟩ := g3.splice hv h3
      have hones := hv.ones h1
      have hfz : hi' ≤ lo ∨ (ys ++ zs).toArray.size ≤ lo := by
        cases m with
        | clean => have : lo = hi' := g6; omega
        | marked => have : lo = hi' ∨ ys.length + zs.length ≤ lo := g6; simp; omega
        | ro => exact (hm rfl).elim
      obtain ⟨w', f1, f2, f3, f4, f5, f6, f7⟩ := run_storeCells (P := P) (o := o) xs 0 w _ g2 (by simp; omega) hfz hones
      refine ⟨c, κ, g1, w', f1, .set hf hb ?_⟩
      refine Inv.update hi hb (by cases m <;> first | rfl | exact (hm rfl).elim) g1 f2 ?_ f3 f4 f5 f6 f7
      refine ⟨ys.take o ++ xs ++ ys.drop (o + xs.length), zs, lo, hi', ?_, g7, g4, fun z hz => ?_, ?_⟩
      · simp only [Nat.add_zero]
        rw [List.take_append_of_le_length (by omega), List.drop_append_of_le_length (by omega)]
        simp
      · rw [← g5 z hz]; simp; omega
      · have : (ys.take o ++ xs ++ ys.drop (o + xs.length)).length = ys.length := by simp; omega
        rw [this]; exact g6
  · cases h

include hC in
theorem storeV_ok {s s' : St} {t : TypeId} {b o : Nat} {v : AV} {x : Value} {c κ : Nat} (hf : Free E s.next) (hi : Inv F E s.heap w) (hv : Rel E v x) (hE : E b = some (c, κ))
    (h : storeV C s t b o v = .ok s') : DoesU P F E s w (Instr.storeAt t (.pointer (some ⟨c, o, none⟩)) x) s' := by
  obtain ⟨n, hn, h1⟩ := Res.bind_ok h
  simp only at h1
  obtain ⟨h2, h3⟩ := cond_ok h1
  obtain ⟨c', κ', g1, w', g2, g3⟩ := storeN_ok (P := P) hf hi hv.cells h3
  rw [hE] at g1; cases g1
  have hs : x.cells.size = n := by
    have := hv.cells.length
    rw [← beq_true h2, this]; simp
  exact ⟨w', E, by simp [Instr.storeAt, Instr.sureAddr, storeVar, hs, run_sz hC hn, g2], g3⟩

theorem DoesU.does {s s' : St} {sm : Sem Unit} (h : DoesU P F E s w sm s') : ∃ w' E', sm.run P w = .ok () w' ∧ Stp F E s E' s' w' := h

end Go.Ab

/-! Slices' literals, maps, append. -/
namespace Go.Ab
variable {P : Program} {C : Ctx} (hC : CtxOK P C) {F : Fr} {E : Blk} {w : World}

include hC in
theorem buildSliceA_ok {s : St} {t : TypeId} {len : Nat} {l : List (Nat × AV)} {vs : List (Nat × Value)} {r : AV × St} (hf : Free E s.next) (hi : Inv F E s.heap w)
    (hl : RelP E l vs) (h0 : buildSliceA C s t len l = .ok r) : Does P F E s w (Instr.buildSlice t len vs.toArray) r.1 r.2 := by
  obtain ⟨d, hd, h1⟩ := Res.bind_ok h0
  clear h0
  have hu := run_under hC (w := w) hd
  split at h1
  · rename_i e
    obtain ⟨n, hn, h2⟩ := Res.bind_ok h1
    cases hz : Nat.beq n 0 with
    | true => rw [hz] at h2; cases h2
    | false =>
      rw [hz] at h2
      simp only [cond_false] at h2
      cases hl0 : Nat.beq len 0 with
      | true =>
        rw [hl0] at h2
        have := beq_true hl0
        subst this
        simp only [cond_true] at h2
        split at h2
        · cases h2
          cases hl
          refine ⟨.slice (some ⟨w.heap.size, 0, none⟩) 0 0, { w with heap := w.heap.push (.cells #[] e) }, upd E s.next (w.heap.size, 0), ?_, .slice _ _ _ (upd_same _ _ _), ?_⟩
          · have hz0 : ¬ (0 * n > 2 ^ 24) := by omega
            unfold Instr.buildSlice
            simp only [Sem.run_bind, hu, Result.andThen_ok, run_sz hC hn, hz0, if_false]
            have hr0 : Array.range 0 = #[] := rfl
            simp [Instr.fill, Go.newRow, hr0]
          · exact Stp.new hf hi rfl (exactCells (xs := []) .nil _ _) rfl rfl rfl
        · cases h2
      | false =>
      rw [hl0] at h2
      simp only [cond_false] at h2
      obtain ⟨h3, h4⟩ := cond_ok h2
      obtain ⟨zs, hzs, h5⟩ := Res.bind_ok h4
      obtain ⟨cs, hcs, h6⟩ := Res.bind_ok h5
      cases h6
      obtain ⟨vz, sz, i, g1, g2, g3, g4, g5, g6, ys, g7, g8, g9, g10⟩ := zeros_ok hC (E := E) hzs
      have hsz : sz = n := by
        have := g2 w
        rw [run_sz hC hn] at this; cases this; rfl
      subst hsz
      simp only [Bool.and_eq_true] at h3
      have hle := Nat.le_of_ble_eq_true h3.1
      have hpos : 0 < len := by have := h3.2; simp only [Nat.blt, Nat.ble_eq] at this; omega
      obtain ⟨us, f1, f2⟩ := fillA_ok (place' := fun i => some (i * sz, sz)) (fun i p hp => hp) hl g7 hcs
      have hle' := upd_le (w.heap.size, 0) (hf _ (Nat.le_refl s.next))
      refine ⟨.slice (some ⟨w.heap.size, 0, none⟩) len len, { w with heap := w.heap.push (.cells us.toArray e) }, upd E s.next (w.heap.size, 0), ?_, .slice _ _ _ (upd_same _ _ _), ?_⟩
      · have hbig : ¬ len * sz > 2 ^ 24 := by omega
        have hz0 : ¬ len * sz = 0 := by have := Nat.mul_pos hpos g3; omega
        have hfill : Instr.fill (fun i => some (i * sz, sz)) ((Array.range (len * sz)).map (fun x => vz.cells[x % vz.cells.size]!)) vs = some us.toArray := by
          rw [← f1, g10]
          congr 1
          have := zeros_eq vz.cells len
          rw [g4] at this
          rw [g4]; exact this
        unfold Instr.buildSlice
        simp only [Sem.run_bind, hu, Result.andThen_ok, g2, hbig, if_false, Sem.run_pure, hz0, g1, hfill, Go.newRow, run_newObj]
      · exact Stp.new hf hi rfl (exactCells (f2.mono hle') _ _) rfl rfl rfl
  · cases h1

/-! maps -/
theorem ERel.append {l l' : List (AV × AV × Nat)} {es es' : List MapEntry} (h : ERel E l es) (h' : ERel E l' es') : ERel E (l ++ l') (es ++ es') := by
  induction h with
  | nil => exact h'
  | cons a b c _ ih => exact .cons a b c ih

theorem ERel.get {l : List (AV × AV × Nat)} {es : List MapEntry} (h : ERel E l es) : ∀ {i : Nat} {e : AV × AV × Nat}, lget l i = some e →
    ∃ x, es[i]? = some x ∧ Rel E e.1 x.key ∧ Rel E e.2.1 x.val ∧ x.born = e.2.2 := by
  induction h with
  | nil => intro i e h; simp [lget] at h
  | cons a b c _ ih =>
    intro i e h
    cases i with
    | zero => simp only [lget, Option.some.injEq] at h; subst h; exact ⟨_, rfl, a, b, c⟩
    | succ i =>
      simp only [lget] at h
      obtain ⟨x, h1, h2⟩ := ih h
      exact ⟨x, by simpa using h1, h2⟩

theorem ERel.set {l : List (AV × AV × Nat)} {es : List MapEntry} (h : ERel E l es) : ∀ {i : Nat} {k v : AV} {n : Nat} {e : MapEntry}, Rel E k e.key → Rel E v e.val → e.born = n →
    ERel E (lset l i (k, v, n)) (es.set i e) := by
  induction h with
  | nil => intro i k v n e _ _ _; exact .nil
  | cons a b c t ih =>
    intro i k v n e h1 h2 h3
    cases i with
    | zero => exact .cons h1 h2 h3 t
    | succ i => exact .cons a b c (ih h1 h2 h3)

theorem sameKey_same {kd : TypeDesc} {x y : Value} (h : Instr.sameNow kd x y = some true) : Instr.sameBits 10000 y x = true := by
  unfold Instr.sameNow at h
  split at h
  · split at h
    · rename_i hk; subst hk
      simp only [Option.some.injEq, beq_iff_eq] at h
      subst h; simp [Instr.sameBits]
    · cases h
  · rename_i a b
    simp only [Option.some.injEq] at h
    have : a = b := by
      obtain ⟨⟨a⟩⟩ := a; obtain ⟨⟨b⟩⟩ := b
      have h' : ((⟨a⟩ : Array UInt8) == ⟨b⟩) = true := h
      rw [beq_iff_eq] at h'; rw [h']
    subst this
    have : (a == a) = true := h
    simp [Instr.sameBits, this]
  · simp only [Option.some.injEq, beq_iff_eq] at h
    subst h; simp [Instr.sameBits]
  · cases h

theorem findNow_at {kd : TypeDesc} {k : Value} : ∀ {es : List MapEntry} {i j : Nat} {v : Value}, Instr.findNow kd k es i = some (some (j, v)) →
    ∃ e, i ≤ j ∧ es[j - i]? = some e ∧ e.val = v ∧ Instr.sameNow kd k e.key = some true
  | [], i, j, v, h => by simp [Instr.findNow] at h
  | e :: es, i, j, v, h => by
    unfold Instr.findNow at h
    split at h
    · rename_i hs
      simp only [Option.some.injEq, Prod.mk.injEq] at h
      obtain ⟨rfl, rfl⟩ := h
      exact ⟨e, Nat.le_refl _, by simp, rfl, hs⟩
    · obtain ⟨e', h1, h2, h3, h4⟩ := findNow_at h
      refine ⟨e', by omega, ?_, h3, h4⟩
      have : j - i = (j - (i + 1)) + 1 := by omega
      rw [this]; simpa using h2
    · cases h

include hC in
theorem mapSet_ok {s s' : St} {t : TypeId} {x k v : AV} {vx vk vv : Value} (hf : Free E s.next) (hi : Inv F E s.heap w) (hx : Rel E x vx) (hk : Rel E k vk) (hv : Rel E v vv)
    (h0 : mapSet C s t x k v = .ok s') : DoesU P F E s w (Instr.mapUpdate t vx vk vv) s' := by
  obtain ⟨⟨kt, et⟩, hke, h1⟩ := Res.bind_ok h0
  obtain ⟨kd, hkd, h2⟩ := Res.bind_ok h1
  obtain ⟨hfit, h3⟩ := cond_ok h2
  clear h0 h1 h2
  obtain ⟨kd', hu, hkd', hp⟩ := mapKE_ok hC (w := w) hke
  rw [hkd] at hkd'; cases hkd'
  split at h3
  · rename_i b
    obtain ⟨⟨es, cl⟩, h4, h5⟩ := Res.bind_ok h3
    obtain ⟨r, h6, h7⟩ := Res.bind_ok h5
    obtain ⟨c, κ, xs, g0, g1, g2, g3⟩ := entriesOf_ok hi h4
    cases hx with | map hE =>
    rw [g1] at hE; cases hE
    obtain ⟨r', hr1, hr2⟩ := findA_ok hk hfit g3 h6
    have key := run_checkKey hC (P := P) (w := w) hkd hp hk hfit false
    have find := run_findKey hC (w := w) hkd hr1
    have setrun : ∀ o : Obj, (setObj c o).run P w = .ok () { w with heap := w.heap.setIfInBounds c o } := fun o => by simp [setObj, Sem.run, g2]
    have hlt : c < w.heap.size := by
      rcases Nat.lt_or_ge c w.heap.size with h | h
      · exact h
      · rw [Array.getElem?_eq_none h] at g2; cases g2
    have upd : ∀ (es' : List (AV × AV × Nat)) (xs' : Array MapEntry) (cl' : Nat), ERel E es' xs'.toList →
        Stp F E s E (s.set b (.map es' cl')) { w with heap := w.heap.setIfInBounds c (.map xs' cl') } := fun es' xs' cl' he =>
      .set hf g0 (Inv.update hi g0 rfl g1 (by simp [hlt]) ⟨xs', rfl, he⟩ (fun k hk => by simp [Ne.symm hk]) (by simp) rfl rfl rfl)
    unfold Instr.mapUpdate
    cases hr2 with
    | @some i a va hva =>
      simp only at h7
      obtain ⟨e, h8, h9⟩ := Res.bind_ok h7
      cases h9
      obtain ⟨y, f1, f2, f3, f4⟩ := g3.get (Res.ofOpt_ok h8)
      obtain ⟨e', q1, q2, q3, q4⟩ := findNow_at hr1
      simp only [Nat.sub_zero] at q2
      rw [q2] at f1; cases f1
      have hsame := sameKey_same q4
      have hget : xs[i]? = some y := by simpa using q2
      refine ⟨_, E, ?_, upd _ (xs.modify i fun e => { e with key := vk, val := vv }) cl ?_⟩
      · simp only [Sem.run_bind, hu, Result.andThen_ok, run_getObj_map g2, key, find, hget, Option.map_some, Option.getD_some, Instr.keyThatStays, hsame, if_true, Sem.run_pure, setrun]
      · have hm : (xs.modify i fun e => { e with key := vk, val := vv }).toList = xs.toList.set i { y with key := vk, val := vv } := by
          apply List.ext_getElem?
          intro j
          simp only [Array.getElem?_toList, Array.getElem?_modify, List.getElem?_set]
          by_cases hij : i = j
          · subst hij
            have hl : i < xs.toList.length := by
              rcases Nat.lt_or_ge i xs.toList.length with h | h
              · exact h
              · rw [List.getElem?_eq_none h] at q2; cases q2
            simp only [hget]
            have hl' : i < xs.size := by simpa using hl
            simp [hl']
          · simp [hij]
        rw [hm]
        exact g3.set hk hv f4
    | none =>
      simp only at h7
      cases h7
      refine ⟨_, E, ?_, upd _ (xs.push { key := vk, val := vv, born := cl }) (cl + 1) ?_⟩
      · simp only [Sem.run_bind, hu, Result.andThen_ok, run_getObj_map g2, key, find, setrun]
      · rw [Array.toList_push]
        exact g3.append (.cons hk hv rfl .nil)
  · cases h3

end Go.Ab

/-! append, copy, clear. -/
namespace Go.Ab
variable {P : Program} {C : Ctx} (hC : CtxOK P C) {F : Fr} {E : Blk} {w : World}

def isInt (d : TypeDesc) : Bool :=
  match d with
  | .int _ => true
  | _ => false

theorem ints_rel (l : List UInt8) : Rels E (l.map fun b => .int .u8 b.toNat) (l.map fun b => .int .u8 b.toNat) := by
  induction l with
  | nil => exact .nil
  | cons a l ih => exact .cons (.int _ _) ih

theorem loadN_all {s : St} {b o n : Nat} {l : List AV} (h : Inv F E s.heap w) (hl : loadN s b o n = .ok l) (P : Program) :
    ∃ c κ xs, E b = some (c, κ) ∧ xs.length = n ∧ Rels E l xs ∧ ∀ m, m ≤ n → (loadCells ⟨c, o, none⟩ m).run P w = .ok (xs.take m).toArray w := by
  unfold loadN at hl
  split at hl
  · rename_i cs e f m hb
    obtain ⟨c, κ, ys, zs, lo, hi, h1, h2, h3, _⟩ := h.cells hb
    obtain ⟨hc1, hc2, hc3⟩ := cut_ok hl
    have hcut := h3.cut hl
    have h5 := hcut.length
    rw [hc2] at h5
    refine ⟨c, κ, (ys.drop o).take n, h1, h5.symm, hcut, fun m hm => ?_⟩
    rcases Nat.eq_zero_or_pos m with rfl | hpos
    · simp [loadCells, loadCellsFrom]
    · simp at h5
      rw [run_loadCells h2 o m (by simp; omega), List.take_take, Nat.min_eq_left hm, List.toList_toArray,
        List.drop_append_of_le_length (by omega), List.take_append_of_le_length (by simp; omega)]
  · cases hl

theorem elemsOf_slice {s : St} {z b o n : Nat} {q : Nat × List AV} (hi : Inv F E s.heap w) {c κ k : Nat} (hE : E b = some (c, κ))
    (h : ((loadN s b o (n * z)).bind fun l => Res.ok (n, l)) = .ok q) (P : Program) :
    (Builtin.lenOf (.slice (some ⟨c, o, none⟩) n k)).run P w = .ok q.1 w ∧ ∃ xs, Rels E q.2 xs ∧ xs.length = q.1 * z ∧
      (Builtin.firstCells z q.1 (.slice (some ⟨c, o, none⟩) n k)).run P w = .ok xs.toArray w ∧
      ∀ m, m ≤ q.1 → (Builtin.firstCells z m (.slice (some ⟨c, o, none⟩) n k)).run P w = .ok (xs.take (m * z)).toArray w := by
  obtain ⟨l, h1, h2⟩ := Res.bind_ok h
  cases h2
  obtain ⟨c', κ', xs, g1, g2, g3, g4⟩ := loadN_all hi h1 P
  rw [hE] at g1; cases g1
  refine ⟨by simp [Builtin.lenOf], xs, g3, g2, ?_, fun m hm => ?_⟩
  · simp only [Builtin.firstCells, g4 (n * z) (Nat.le_refl _)]
    rw [List.take_of_length_le (by omega)]
  · simp only [Builtin.firstCells, g4 (m * z) (Nat.mul_le_mul_right z hm)]

theorem elemsOf_ok {s : St} {z : Nat} {x : AV} {vx : Value} {q : Nat × List AV} (hi : Inv F E s.heap w) (hx : Rel E x vx) (h : elemsOf s z x = .ok q) (P : Program) :
    (Builtin.lenOf vx).run P w = .ok q.1 w ∧ ∃ xs, Rels E q.2 xs ∧ xs.length = q.1 * z ∧ (Builtin.firstCells z q.1 vx).run P w = .ok xs.toArray w ∧
      ∀ k, k ≤ q.1 → (Builtin.firstCells z k vx).run P w = .ok (xs.take (k * z)).toArray w := by
  unfold elemsOf at h
  split at h
  · cases h; cases hx
    exact ⟨by simp [Builtin.lenOf], [], .nil, by simp, by simp [Builtin.firstCells], fun k _ => by simp [Builtin.firstCells]⟩
  · cases h; cases hx
    exact ⟨by simp [Builtin.lenOf], [], .nil, by simp, by simp [Builtin.firstCells, loadCells, loadCellsFrom], fun k hk => by
      have : k = 0 := by omega
      subst this; simp [Builtin.firstCells, loadCells, loadCellsFrom]⟩
  · rename_i b o n c
    cases hx with | slice _ _ _ hE =>
    exact elemsOf_slice hi hE h P
  · cases hx with | slicev _ _ _ hE hn =>
    exact elemsOf_slice hi hE h P
  · rename_i l
    obtain ⟨h1, h2⟩ := cond_ok h
    cases h2; cases hx
    have h1 := beq_true h1
    subst h1
    have hs : (ByteArray.mk l.toArray).size = l.length := by simp [ByteArray.size]
    refine ⟨by simp [Builtin.lenOf, hs], _, ints_rel l, by simp, ?_, fun k hk => ?_⟩
    · have : ((ByteArray.mk l.toArray).extract 0 l.length) = ⟨l.toArray⟩ := by ext1; simp
      simp [Builtin.firstCells, this]
    · have : ((ByteArray.mk l.toArray).extract 0 k) = ⟨(l.take k).toArray⟩ := by ext1; simp
      simp [Builtin.firstCells, this, List.map_take]
  · cases h

theorem growBy_le (n : Nat) : ∀ (r c : Nat), c ≤ n + (n + 768) / 4 → Builtin.growBy n r c ≤ n + (n + 768) / 4
  | 0, c, h => by simpa [Builtin.growBy] using h
  | r + 1, c, h => by
    unfold Builtin.growBy
    split
    · exact h
    · exact growBy_le n r _ (by omega)

theorem nextslicecap_le (n c : Nat) (h : c < n) : Builtin.nextslicecap n c ≤ 2 * n + 1000 := by
  unfold Builtin.nextslicecap
  split
  · omega
  · split
    · omega
    · have := growBy_le n 4 c (by omega)
      omega

/-- a block has been written, and goes by another number -/
theorem Inv.regrow {H : Tr AO} {b n c κ : Nat} {ao ao' : AO} {o' : Obj} {w' : World} (h : Inv F E H w) (hb : H.get b = some ao) (hrw : ao.rw = true) (hE : E b = some (c, κ)) (hn : E n = none)
    (ho : w'.heap[c]? = some o') (hr : ORel (upd E n (c, κ)) κ ao' o') (hk : ∀ k, k ≠ c → w'.heap[k]? = w.heap[k]?)
    (hs : w'.heap.size = w.heap.size) (ht : w'.tape = w.tape) (hos : w'.os = w.os) (hout : w'.output = w.output) :
    Inv F (upd E n (c, κ)) (Tr.put (some ao') dep (Tr.put none dep H b) n) w' := by
  have hle : Le E (upd E n (c, κ)) := upd_le _ hn
  have cases_ : ∀ k x, (Tr.put (some ao') dep (Tr.put none dep H b) n).get k = some x → (k = n ∧ x = ao') ∨ (k ≠ n ∧ k ≠ b ∧ H.get k = some x) := fun k x hx => by
    rcases put_some hx with ⟨h1, h2⟩ | ⟨h1, h2⟩
    · exact .inl ⟨h1, h2.symm⟩
    · obtain ⟨h3, h4⟩ := put_none h2
      exact .inr ⟨h1, h3, h4⟩
  refine ⟨ht.trans h.tape, hos.trans h.os, hout.trans h.out, by rw [hs]; exact h.size, ?_, ?_, ?_, ?_⟩
  · intro k hlt hS
    rw [hk k ?_]
    · exact h.frame k hlt hS
    · rintro rfl
      rcases h.own b ao k κ hb hrw hE with h1 | h1
      · omega
      · exact hS h1
  · intro k x hx
    rcases cases_ k x hx with ⟨rfl, rfl⟩ | ⟨h1, h2, h3⟩
    · exact ⟨c, κ, o', upd_same _ _ _, ho, hr⟩
    · obtain ⟨c', κ', o, g1, g2, g3⟩ := h.obj _ _ h3
      refine ⟨c', κ', o, hle _ _ g1, ?_, g3.mono hle⟩
      rw [hk c' ?_]
      · exact g2
      · rintro rfl
        exact h2 (h.inj _ _ _ _ _ _ _ h3 hb g1 hE)
  · intro k x c' κ' hx hrw' hEk
    rcases cases_ k x hx with ⟨rfl, rfl⟩ | ⟨h1, h2, h3⟩
    · rw [upd_same] at hEk; cases hEk
      exact h.own _ _ _ _ hb hrw hE
    · rw [upd_other _ _ h1] at hEk
      exact h.own _ _ _ _ h3 hrw' hEk
  · intro k1 k2 x1 x2 c' κ1 κ2 hx1 hx2 e1 e2
    rcases cases_ k1 x1 hx1 with ⟨q1, p1⟩ | ⟨n1, m1, g1⟩ <;> rcases cases_ k2 x2 hx2 with ⟨q2, p2⟩ | ⟨n2, m2, g2⟩
    · rw [q1, q2]
    · rw [q1, upd_same] at e1; cases e1
      rw [upd_other _ _ n2] at e2
      exact absurd (h.inj _ _ _ _ _ _ _ hb g2 hE e2).symm m2
    · rw [q2, upd_same] at e2; cases e2
      rw [upd_other _ _ n1] at e1
      exact absurd (h.inj _ _ _ _ _ _ _ g1 hb e1 hE) m1
    · rw [upd_other _ _ n1] at e1; rw [upd_other _ _ n2] at e2
      exact h.inj _ _ _ _ _ _ _ g1 g2 e1 e2

theorem Rel.slice_shape {x : AV} {vx : Value} (hx : Rel E x vx) (h : x = .snil ∨ (∃ b o n c, x = .slice b o n c) ∨ (∃ b o n k, x = .slicev b o n k) ∨ x = .slice0) :
    ∃ a n c, vx = .slice a n c := by
  rcases h with rfl | ⟨b, o, n, c, rfl⟩ | ⟨b, o, n, k, rfl⟩ | rfl <;> cases hx <;> exact ⟨_, _, _, rfl⟩

/-- append, where there is room -/
theorem run_append_room {ts u ty e : TypeId} {du : TypeDesc} {base : Option Addr} {n c sz m : Nat} {y : Value} {new : Array Value} {w' : World}
    (hu : (underlying ts).run P w = .ok (.slice e) w) (hv : (underlying u).run P w = .ok du w) (hd : isInt du = false) (hs : (sizeOf e).run P w = .ok sz w)
    (hl : (Builtin.lenOf y).run P w = .ok m w) (hn : (Builtin.firstCells sz m y).run P w = .ok new w) (hroom : n + m ≤ c)
    (hst : ∀ a, base = some a → (storeCells (a.add (n * sz)) new.toList).run P w = .ok () w') (hnone : base = none → w' = w) (rest : Array TypeId) (more : Array Value) :
    (Builtin.append_ (#[ts, u] ++ rest) ty (#[.slice base n c, y] ++ more)).run P w = .ok (.slice base (n + m) c) w' := by
  have t0 : (#[ts, u] ++ rest)[0]? = some ts := by simp [Array.getElem?_append]
  have t1 : (#[ts, u] ++ rest)[1]? = some u := by simp [Array.getElem?_append]
  have a0 : (#[Value.slice base n c, y] ++ more)[0]? = some (.slice base n c) := by simp [Array.getElem?_append]
  have a1 : (#[Value.slice base n c, y] ++ more)[1]? = some y := by simp [Array.getElem?_append]
  unfold Builtin.append_
  cases du <;> first
    | (simp [isInt] at hd; done)
    | (simp only [t0, t1, a0, a1, Sem.run_bind, hu, hv, hs, Result.andThen_ok, Sem.run_pure, Bool.not_false, Bool.false_eq_true, if_false, if_true, hl, hroom, hn]
       cases base with
       | none => rw [hnone rfl]; rfl
       | some a => simp only [hst a rfl, Sem.run_bind, Result.andThen_ok, Sem.run_pure])

/-- append, where there is none -/
theorem run_append_grow {ts u ty e : TypeId} {du : TypeDesc} {base : Option Addr} {n c sz m : Nat} {y vz : Value} {old new : Array Value} {i : TypeInfo}
    (hu : ∀ w, (underlying ts).run P w = .ok (.slice e) w) (hv : ∀ w, (underlying u).run P w = .ok du w) (hd : isInt du = false) (hs : ∀ w, (sizeOf e).run P w = .ok sz w)
    (hl : (Builtin.lenOf y).run P w = .ok m w) (hroom : ¬ n + m ≤ c) (hbig : n + m ≤ 1000000) (hi : ∀ w, (typeInfo e).run P w = .ok i w) (hb : i.bytes ≤ 1000000)
    (hz : ∀ w, (zeroValue e).run P w = .ok vz w)
    (ho : (Builtin.firstCells sz n (.slice base n c)).run P { w with drawn := w.drawn + 1 } = .ok old { w with drawn := w.drawn + 1 })
    (hnw : (Builtin.firstCells sz m y).run P { w with drawn := w.drawn + 1 } = .ok new { w with drawn := w.drawn + 1 })
    (rest : Array TypeId) (more : Array Value) :
    ∃ (κ : Nat) (w' : World), n + m ≤ κ ∧ (Builtin.append_ (#[ts, u] ++ rest) ty (#[.slice base n c, y] ++ more)).run P w = .ok (.slice (some ⟨w.heap.size, 0, none⟩) (n + m) κ) w' ∧
      w'.heap = w.heap.push (.cells (old ++ new ++ Builtin.zeroCells vz.cells (κ - (n + m))) e) ∧ w'.tape = w.tape ∧ w'.os = w.os ∧ w'.output = w.output := by
  have t0 : (#[ts, u] ++ rest)[0]? = some ts := by simp [Array.getElem?_append]
  have t1 : (#[ts, u] ++ rest)[1]? = some u := by simp [Array.getElem?_append]
  have a0 : (#[Value.slice base n c, y] ++ more)[0]? = some (.slice base n c) := by simp [Array.getElem?_append]
  have a1 : (#[Value.slice base n c, y] ++ more)[1]? = some y := by simp [Array.getElem?_append]
  have hint : ¬ (((n + m : Nat) : Int) > IntKind.i64.max) := by simp [IntKind.max, IntKind.signed, IntKind.bits]; omega
  have hcap : ¬ Builtin.nextslicecap (n + m) c * i.bytes > 2 ^ 48 := by
    have h1 := nextslicecap_le (n + m) c (by omega)
    have h2 : Builtin.nextslicecap (n + m) c * i.bytes ≤ 2001000 * 1000000 := Nat.mul_le_mul (by omega) hb
    omega
  generalize hκ : (n + m) + w.tape w.drawn (.appendCap (n + m) c e) % (2 ^ 63 - (n + m)) = κ
  refine ⟨κ, { w with drawn := w.drawn + 1, heap := w.heap.push (.cells (old ++ new ++ Builtin.zeroCells vz.cells (κ - (n + m))) e) }, by omega, ?_, rfl, rfl, rfl, rfl⟩
  unfold Builtin.append_
  cases du <;> first
    | (simp [isInt] at hd; done)
    | (simp only [t0, t1, a0, a1, Sem.run_bind, hu, hv, hs, Result.andThen_ok, Sem.run_pure, Bool.not_false, Bool.false_eq_true, if_false, if_true, hl, hroom, hint, false_and, hi, hcap, run_choose, Question.forced,
        Question.cut, run_askRoom, hκ, ho, hnw, hz, Go.newRow, run_newObj])

end Go.Ab

/-! append, as a whole; copy; clear. -/
namespace Go.Ab
variable {P : Program} {C : Ctx} (hC : CtxOK P C) {F : Fr} {E : Blk} {w : World}

theorem zeroCells_eq (z : Array Value) (n : Nat) : Builtin.zeroCells z n = (rep n z.toList).toArray := zeros_eq z n

/-- a row in new memory, of whatever capacity -/
theorem grown_ok {s : St} {e : TypeId} {z n κ : Nat} (md : Md) {cs : List AV} {xs zs : List Value} {w' : World} (hf : Free E s.next) (hi : Inv F E s.heap w)
    (hn : n ≤ κ) (hx : Rels E cs xs) (hl : xs.length + zs.length = κ * z) (hw : w'.heap = w.heap.push (.cells (xs ++ zs).toArray e))
    (ht : w'.tape = w.tape) (ho : w'.os = w.os) (hp : w'.output = w.output) :
    ∃ E', Rel E' (regrown s none e z md n cs).1 (.slice (some ⟨w.heap.size, 0, none⟩) n κ) ∧ Stp F E s E' (regrown s none e z md n cs).2 w' := by
  have hle := upd_le (w.heap.size, κ) (hf _ (Nat.le_refl s.next))
  refine ⟨upd E s.next (w.heap.size, κ), ?_, ?_⟩
  · have := Rel.slicev (E := upd E s.next (w.heap.size, κ)) 0 n 0 (upd_same _ _ _) (by omega)
    simpa [regrown] using this
  · exact Stp.new hf hi hw (flexCells (hx.mono hle) κ e z md hl 0 0 (by cases md <;> simp [frozenFits])) ht ho hp

include hC in
theorem appendA_ok {s : St} {ts u ty : TypeId} {du : TypeDesc} {x y : AV} {vx vy : Value} {r : AV × St} (hf : Free E s.next) (hi : Inv F E s.heap w) (hx : Rel E x vx) (hy : Rel E y vy)
    (hu : C.under u = .ok du) (hd : isInt du = false) (h0 : appendA C s ts x y = .ok r) (rest : Array TypeId) (more : Array Value) :
    Does P F E s w (Builtin.append_ (#[ts, u] ++ rest) ty (#[vx, vy] ++ more)) r.1 r.2 := by
  obtain ⟨d, hd1, h1⟩ := Res.bind_ok h0
  clear h0
  split at h1
  case h_2 => cases h1
  rename_i e
  obtain ⟨p, hp, h2⟩ := Res.bind_ok h1
  simp only at h2
  obtain ⟨q, hq, h3⟩ := Res.bind_ok h2
  clear h1 h2
  obtain ⟨vz, i, z1, z2, z3, z4, z5, z6, z7⟩ := zeroE_ok hC (E := E) hp
  have hts : ∀ w, (underlying ts).run P w = .ok (.slice e) w := fun w => run_under hC hd1
  have hus : ∀ w, (underlying u).run P w = .ok du w := fun w => run_under hC hu
  obtain ⟨l1, ys, y1, y2, y3, y4⟩ := elemsOf_ok hi hy hq P
  have hi1 : Inv F E s.heap { w with drawn := w.drawn + 1 } := hi.drawn rfl rfl rfl rfl
  obtain ⟨l1', ys', y1', y2', y3', y4'⟩ := elemsOf_ok hi1 hy hq P
  have fin : ∀ (a : AV) (s' : St) (v : Value) (w' : World) (E' : Blk), (Builtin.append_ (#[ts, u] ++ rest) ty (#[vx, vy] ++ more)).run P w = .ok v w' → Rel E' a v → Stp F E s E' s' w' →
      Does P F E s w (Builtin.append_ (#[ts, u] ++ rest) ty (#[vx, vy] ++ more)) a s' := fun a s' v w' E' a1 a2 a3 => ⟨v, w', E', a1, a2, a3⟩
  cases hm : Nat.beq q.1 0 with
  | true =>
    rw [hm] at h3
    simp only [cond_true] at h3
    have hm0 := beq_true hm
    have hnil : ys = [] := by
      have := y2; rw [hm0, Nat.zero_mul] at this
      exact List.length_eq_zero_iff.1 this
    have room : ∀ base n c, vx = .slice base n c → n ≤ c → (Builtin.append_ (#[ts, u] ++ rest) ty (#[vx, vy] ++ more)).run P w = .ok vx w := by
      rintro base n c rfl hnc
      have := run_append_room (P := P) (ty := ty) (w' := w) (n := n) (c := c) (m := q.1) (new := ys.toArray) (base := base) (hts w) (hus w) hd (z7 w) l1 y3 (by omega)
        (fun a _ => by rw [hnil]; simp [storeCells]) (fun _ => rfl) rest more
      rw [this, hm0]; rfl
    unfold appendNone at h3
    split at h3
    · cases h3; cases hx
      exact fin _ _ _ _ E (room _ _ _ rfl (Nat.le_refl _)) .snil (.refl hf hi)
    · cases h3; cases hx with | slice0 a c =>
      exact fin _ _ _ _ E (room _ _ _ rfl (Nat.zero_le _)) (.slice0 a c) (.refl hf hi)
    · rename_i b o n k
      cases h3; cases hx with | slicev _ _ _ hE hn =>
      exact fin _ _ _ _ E (room _ _ _ rfl (by omega)) (.slicev o n k hE hn) (.refl hf hi)
    · rename_i b o n c
      obtain ⟨h4, h5⟩ := cond_ok h3
      cases h5; cases hx with | slice _ _ _ hE =>
      exact fin _ _ _ _ E (room _ _ _ rfl (Nat.le_of_ble_eq_true h4)) (.slice o n c hE) (.refl hf hi)
    · cases h3
  | false =>
    rw [hm] at h3
    simp only [cond_false] at h3
    have hm0 := beq_false hm
    -- growing, whatever the slice was
    have grow : ∀ (md : Md) (base : Option Addr) (n c : Nat) (olds : List AV) (xo : List Value), vx = .slice base n c → ¬ n + q.1 ≤ c → n + q.1 ≤ 1000000 → Rels E olds xo → xo.length = n * p.2 →
        (Builtin.firstCells p.2 n (.slice base n c)).run P { w with drawn := w.drawn + 1 } = .ok xo.toArray { w with drawn := w.drawn + 1 } → ∀ s0 : St, s0.next = s.next → Inv F E s0.heap w →
        ∃ v w' E', (Builtin.append_ (#[ts, u] ++ rest) ty (#[vx, vy] ++ more)).run P w = .ok v w' ∧ Rel E' (regrown s0 none e p.2 md (n + q.1) (olds ++ q.2)).1 v ∧
          Stp F E s0 E' (regrown s0 none e p.2 md (n + q.1) (olds ++ q.2)).2 w' := by
      rintro md base n c olds xo rfl hroom hbig ho hol hrun s0 hs0 hi0
      obtain ⟨κ, w', k1, k2, k3, k4, k5, k6⟩ := run_append_grow (P := P) (w := w) (ty := ty) (n := n) (c := c) (m := q.1) (old := xo.toArray) (new := ys'.toArray) (base := base) hts hus hd z7 l1 hroom hbig z5 z6 z1
        hrun y3' rest more
      have hn := hs0 ▸ hf
      obtain ⟨E', e1, e2⟩ := grown_ok md (s := s0) (e := e) (z := p.2) (n := n + q.1) (κ := κ) (cs := olds ++ q.2) (xs := xo ++ ys') (zs := rep (κ - (n + q.1)) vz.cells.toList) (w' := w') (by rw [hs0]; exact hf) hi0 k1
        (ho.append y1') (by
          rw [rep_length]; simp [hol, y2', z3]
          have : κ = (n + q.1) + (κ - (n + q.1)) := by omega
          rw [← Nat.add_mul, ← Nat.add_mul, ← this]) (by rw [k3, zeroCells_eq]; simp) k4 k5 k6
      exact ⟨_, w', E', k2, e1, e2⟩
    split at h3
    · -- nil
      obtain ⟨h4, h5⟩ := cond_ok h3
      cases h5; cases hx
      have hbig := Nat.le_of_ble_eq_true h4
      obtain ⟨v, w', E', a1, a2, a3⟩ := grow .clean none 0 0 [] [] rfl (by omega) (by omega) .nil (by simp) (by simp [Builtin.firstCells]) s rfl hi
      simp only [Nat.zero_add, List.nil_append] at a2 a3
      exact fin _ _ _ _ E' a1 a2 a3
    · rename_i b o n c
      cases hx with | slice _ _ _ hE =>
      rename_i c0 κ0
      cases hr : Nat.ble (n + q.1) c with
      | true =>
        rw [hr] at h3
        simp only [cond_true] at h3
        obtain ⟨s1, h4, h5⟩ := Res.bind_ok h3
        cases h5
        obtain ⟨c1, κ1, g1, w', g2, g3⟩ := storeN_ok (P := P) hf hi y1 h4
        rw [hE] at g1; cases g1
        refine fin _ _ _ w' E ?_ (.slice o (n + q.1) c hE) g3
        exact run_append_room (P := P) (ty := ty) (w' := w') (hts w) (hus w) hd (z7 w) l1 y3 (Nat.le_of_ble_eq_true hr) (fun a ha => by cases ha; rw [Addr.add_none]; simpa using g2) (fun h => by cases h) rest more
      | false =>
        rw [hr] at h3
        simp only [cond_false] at h3
        obtain ⟨olds, h4, h5⟩ := Res.bind_ok h3
        obtain ⟨h6, h7⟩ := cond_ok h5
        cases h7
        obtain ⟨c1, κ1, xo, g1, g2, g3, g4⟩ := loadN_all hi1 h4 P
        rw [hE] at g1; cases g1
        have hroom : ¬ n + q.1 ≤ c := by
          intro hle
          have : Nat.ble (n + q.1) c = true := by rw [Nat.ble_eq]; exact hle
          rw [this] at hr; cases hr
        obtain ⟨v, w', E', a1, a2, a3⟩ := grow .clean (some ⟨c0, o, none⟩) n c olds xo rfl hroom (Nat.le_of_ble_eq_true h6) g3 g2 (by
          simp only [Builtin.firstCells, g4 _ (Nat.le_refl _)]; rw [List.take_of_length_le (by omega)]) s rfl hi
        exact fin _ _ _ _ E' a1 a2 a3
    · rename_i b o n k
      cases hx with | slicev _ _ _ hE hn =>
      rename_i c0 κ0
      cases hb : s.heap.get b with
      | none => rw [hb] at h3; cases h3
      | some ao =>
      rw [hb] at h3
      split at h3
      · rename_i cs e' z' md hsome
        cases hsome
        split at h3
        · cases h3
        · rename_i hmd
          obtain ⟨h4, h5⟩ := cond_ok h3
          have hzz := beq_true h4
          subst hzz
          obtain ⟨c1, κ1, us, zs, lo, hi', g1, g2, g3, g4, g5, g6⟩ := hi.cells hb
          rw [hE] at g1; cases g1
          have g5 := g5 _ rfl
          have g3l := g3.length
          cases hin : (Nat.beq o (k * p.2) && Nat.ble (o + (n + q.1) * p.2) cs.length) with
          | true =>
            rw [hin] at h5
            simp only [cond_true] at h5
            obtain ⟨s1, h6, h7⟩ := Res.bind_ok h5
            cases h7
            simp only [Bool.and_eq_true] at hin
            have i1 := beq_true hin.1
            have i2 := Nat.le_of_ble_eq_true hin.2
            obtain ⟨c1, κ1, f1, w', f2, f3⟩ := storeN_ok (P := P) hf hi y1 h6
            rw [hE] at f1; cases f1
            have hroom : n + q.1 + k ≤ κ0 := by
              have e1 : (n + q.1 + k) * p.2 ≤ κ0 * p.2 := by
                rw [Nat.add_mul (n + q.1) k p.2]
                omega
              exact Nat.le_of_mul_le_mul_right e1 z4
            refine fin _ _ _ w' E ?_ (.slicev o (n + q.1) k hE hroom) f3
            exact run_append_room (P := P) (ty := ty) (w' := w') (hts w) (hus w) hd (z7 w) l1 y3 (by omega) (fun a ha => by cases ha; rw [Addr.add_none]; simpa using f2) (fun h => by cases h) rest more
          | false =>
            rw [hin] at h5
            simp only [cond_false] at h5
            obtain ⟨h6, h7⟩ := cond_ok h5
            obtain ⟨olds, h8, h9⟩ := Res.bind_ok h7
            obtain ⟨h10, h11⟩ := cond_ok h9
            obtain ⟨h12, h13⟩ := cond_ok h11
            cases h13
            simp only [Bool.and_eq_true] at h6
            obtain ⟨⟨j1, j2⟩, j3⟩ := h6
            have j1 := beq_true j1
            have j2 := beq_true j2
            have j3 := beq_true j3
            subst j1 j2 j3
            have hbig := Nat.le_of_ble_eq_true h10
            obtain ⟨c2, κ2, xo, f1, f2, f3, f4⟩ := loadN_all hi1 h8 P
            rw [hE] at f1; cases f1
            by_cases hroom : n + q.1 ≤ κ0
            · -- in its place
              have hz0 : (n + q.1) * p.2 ≤ κ0 * p.2 := Nat.mul_le_mul_right _ hroom
              have hadd : (n + q.1) * p.2 = n * p.2 + q.1 * p.2 := Nat.add_mul _ _ _
              unfold loadN at h8
              rw [hb] at h8
              simp only at h8
              obtain ⟨k1, k2, k3⟩ := cut_ok h8
              have k4 := g3.cut h8
              have k5 := k4.length
              rw [k2] at k5
              simp at k5
              have hsz : (us ++ zs).toArray.size = κ0 * p.2 := by simp; omega
              have hfz : hi' ≤ lo ∨ (us ++ zs).toArray.size ≤ lo := by
                cases md with
                | clean => have : lo = hi' := g6; omega
                | marked => have : lo = hi' ∨ us.length + zs.length ≤ lo := g6; simp; omega
                | ro => exact (hmd rfl).elim
              obtain ⟨w', m1, m2, m3, m4, m5, m6, m7⟩ := run_storeCells (P := P) (o := n * p.2) ys 0 w _ g2 (by rw [hsz]; omega) hfz (y1.ones h12)
              have hfree := hf _ (Nat.le_refl s.next)
              have hle := upd_le (c0, κ0) hfree
              have hrel : ORel (upd E s.next (c0, κ0)) κ0 (.cells (olds ++ q.2) e (some p.2) md) (.cells ((us ++ zs).toArray.toList.take (n * p.2 + 0) ++ ys ++ (us ++ zs).toArray.toList.drop (n * p.2 + 0 + ys.length)).toArray e (lo, hi')) := by
                refine ⟨us.take (n * p.2) ++ ys, (us ++ zs).drop (n * p.2 + ys.length), lo, hi', ?_, ?_, fun h => (by cases h), fun z hz => ?_, ?_⟩
                · simp only [Nat.add_zero]
                  rw [List.take_append_of_le_length (by omega)]
                · have k6 := k4.mono hle
                  rw [List.drop_zero] at k6
                  exact k6.append (y1.mono hle)
                · cases hz; simp; omega
                · have hl : (us.take (n * p.2) ++ ys).length + ((us ++ zs).drop (n * p.2 + ys.length)).length = us.length + zs.length := by simp; omega
                  rw [hl]; exact g6
              have hinv := Inv.regrow (ao' := .cells (olds ++ q.2) e (some p.2) md) hi hb (by cases md <;> first | rfl | exact (hmd rfl).elim) hE hfree m2 hrel m3 m4 m5 m6 m7
              refine fin _ _ (.slice (some ⟨c0, 0, none⟩) (n + q.1) κ0) w' (upd E s.next (c0, κ0)) ?_ ?_ ?_
              · exact run_append_room (P := P) (ty := ty) (w' := w') (hts w) (hus w) hd (z7 w) l1 y3 hroom (fun a ha => by cases ha; rw [Addr.add_none, Nat.zero_add]; simpa using m1) (fun h => by cases h) rest more
              · have := Rel.slicev (E := upd E s.next (c0, κ0)) 0 (n + q.1) 0 (upd_same _ _ _) (by omega)
                rw [Nat.sub_zero] at this
                exact this
              · refine ⟨fun b' hb' => upd_other _ _ (by omega), Nat.le_succ _, ?_, hinv, ?_, ?_⟩
                · intro b' hb'
                  have : s.next + 1 ≤ b' := hb'
                  rw [upd_other _ _ (by omega)]; exact hf b' (by omega)
                · intro b' hb' hn'
                  change (Tr.put (some (AO.cells (olds ++ q.2) e (some p.2) md)) dep (Tr.put none dep s.heap b) s.next).get b' = none
                  cases hg : (Tr.put (some (AO.cells (olds ++ q.2) e (some p.2) md)) dep (Tr.put none dep s.heap b) s.next).get b' with
                  | none => rfl
                  | some x =>
                    rcases put_some hg with ⟨h1, h2⟩ | ⟨h1, h2⟩
                    · omega
                    · have h3 := (put_none h2).2
                      rw [hn'] at h3; cases h3
                · intro b' c' κ' hb' hE'
                  by_cases h1 : b' = s.next
                  · subst h1; rw [upd_same] at hE'; cases hE'; exact .inr ⟨b, _, hb, hE⟩
                  · rw [upd_other _ _ h1, hf b' hb'] at hE'; cases hE'
            · obtain ⟨v, w', E', a1, a2, a3⟩ := grow md (some ⟨c0, 0, none⟩) n κ0 olds xo rfl hroom hbig f3 f2 (by
                simp only [Builtin.firstCells, f4 _ (Nat.le_refl _)]; rw [List.take_of_length_le (by omega)]) (s.drop b) rfl (hi.sub fun k x hx => (put_none hx).2)
              refine fin _ _ _ _ E' a1 a2 ⟨a3.old, a3.le, a3.free, a3.inv, ?_, ?_⟩
              · intro k hk hn'
                refine a3.keys k hk ?_
                cases hg : (s.drop b).heap.get k with
                | none => rfl
                | some x =>
                  have := (put_none hg).2
                  rw [hn'] at this; cases this
              · intro k c' κ' hk hE'
                rcases a3.fresh k c' κ' hk hE' with h1 | ⟨b0, ao, h1, h2⟩
                · exact .inl h1
                · exact .inr ⟨b0, ao, (put_none h1).2, h2⟩
      · cases h3
    · cases h3

end Go.Ab

/-! copy, clear, make; conversions; ranges; externs. -/
namespace Go.Ab
variable {P : Program} {C : Ctx} (hC : CtxOK P C) {F : Fr} {E : Blk} {w : World}

include hC in
theorem copyA_ok {s : St} {td ty : TypeId} {x y : AV} {vx vy : Value} {r : AV × St} (hf : Free E s.next) (hi : Inv F E s.heap w) (hx : Rel E x vx) (hy : Rel E y vy)
    (h0 : copyA C s td x y = .ok r) (rest : Array TypeId) (more : Array Value) :
    Does P F E s w (Builtin.copy_ (#[td] ++ rest) ty (#[vx, vy] ++ more)) r.1 r.2 := by
  obtain ⟨d, hd1, h1⟩ := Res.bind_ok h0
  clear h0
  split at h1
  case h_2 => cases h1
  rename_i e
  obtain ⟨p, hp, h2⟩ := Res.bind_ok h1
  simp only at h2
  obtain ⟨q, hq, h3⟩ := Res.bind_ok h2
  clear h1 h2
  obtain ⟨vz, i, z1, z2, z3, z4, z5, z6, z7⟩ := zeroE_ok hC (E := E) hp
  have hts := run_under hC (w := w) hd1
  obtain ⟨l1, ys, y1, y2, y3, y4⟩ := elemsOf_ok hi hy hq P
  have t0 : (#[td] ++ rest)[0]? = some td := by simp [Array.getElem?_append]
  have a0 : (#[vx, vy] ++ more)[0]? = some vx := by simp [Array.getElem?_append]
  have a1 : (#[vx, vy] ++ more)[1]? = some vy := by simp [Array.getElem?_append]
  have key : ∀ (b o n c : Nat) (ad : Addr) (cp : Nat), vx = .slice (some ad) n cp → (∃ c κ, E b = some (c, κ) ∧ ad = ⟨c, o, none⟩) →
      ((storeN s b o (q.2.take (Nat.min q.1 n * p.2))).bind fun s => Res.ok (AV.int .i64 (Nat.min q.1 n), s)) = .ok r →
      Does P F E s w (Builtin.copy_ (#[td] ++ rest) ty (#[vx, vy] ++ more)) r.1 r.2 := by
    rintro b o n c ad cp rfl ⟨c0, κ, hE, rfl⟩ h
    obtain ⟨s1, h4, h5⟩ := Res.bind_ok h
    cases h5
    have hmin : Nat.min q.1 n ≤ q.1 := Nat.min_le_left _ _
    obtain ⟨c1, κ1, f1, w', f2, f3⟩ := storeN_ok (P := P) hf hi (y1.take (Nat.min q.1 n * p.2)) h4
    rw [hE] at f1; cases f1
    refine ⟨_, w', E, ?_, .int _ _, f3⟩
    unfold Builtin.copy_
    simp only [t0, a0, a1, Sem.run_bind, hts, Result.andThen_ok, l1, z7, y4 _ hmin, f2, Sem.run_pure, goInt]
  split at h3
  · cases h3; cases hx
    refine ⟨_, w, E, ?_, .int _ _, .refl hf hi⟩
    have := y4 0 (Nat.zero_le _)
    unfold Builtin.copy_
    have hm : Nat.min q.1 0 = 0 := Nat.min_zero _
    simp only [t0, a0, a1, Sem.run_bind, hts, Result.andThen_ok, l1, z7, hm, this, Sem.run_pure, goInt]
    rfl
  · cases h3; cases hx with | slice0 a c =>
    refine ⟨_, w, E, ?_, .int _ _, .refl hf hi⟩
    have := y4 0 (Nat.zero_le _)
    unfold Builtin.copy_
    have hm : Nat.min q.1 0 = 0 := Nat.min_zero _
    simp only [t0, a0, a1, Sem.run_bind, hts, Result.andThen_ok, l1, z7, hm, this, Sem.run_pure, goInt]
    simp [storeCells]
  · rename_i b o n c
    cases hx with | slice _ _ _ hE =>
    exact key b o n c _ _ rfl ⟨_, _, hE, rfl⟩ h3
  · rename_i b o n k
    cases hx with | slicev _ _ _ hE hn =>
    exact key b o n k _ _ rfl ⟨_, _, hE, rfl⟩ h3
  · cases h3

include hC in
theorem clearA_ok {s s' : St} {t ty : TypeId} {x : AV} {vx : Value} (hf : Free E s.next) (hi : Inv F E s.heap w) (hx : Rel E x vx)
    (h0 : clearA C s t x = .ok s') (rest : Array TypeId) (more : Array Value) :
    Does P F E s w (Builtin.clear_ (#[t] ++ rest) ty (#[vx] ++ more)) (.tuple []) s' := by
  obtain ⟨d, hd1, h1⟩ := Res.bind_ok h0
  clear h0
  have hts := run_under hC (w := w) hd1
  have t0 : (#[t] ++ rest)[0]? = some t := by simp [Array.getElem?_append]
  have a0 : (#[vx] ++ more)[0]? = some vx := by simp [Array.getElem?_append]
  have key : ∀ (e : TypeId) (b o n : Nat) (ad : Addr) (cp : Nat), d = .slice e → vx = .slice (some ad) n cp → (∃ c κ, E b = some (c, κ) ∧ ad = ⟨c, o, none⟩) →
      (cond (Nat.beq n 0) (Res.ok s) ((zerosA C e n).bind fun zs => storeN s b o zs)) = .ok s' →
      Does P F E s w (Builtin.clear_ (#[t] ++ rest) ty (#[vx] ++ more)) (.tuple []) s' := by
    rintro e b o n ad cp rfl rfl ⟨c0, κ, hE, rfl⟩ h
    cases hn : Nat.beq n 0 with
    | true =>
      rw [hn] at h
      have := beq_true hn
      subst this
      cases h
      refine ⟨_, w, E, ?_, .tuple .nil, .refl hf hi⟩
      unfold Builtin.clear_
      simp only [t0, a0, Sem.run_bind, hts, Result.andThen_ok, Sem.run_pure]
    | false =>
      rw [hn] at h
      have hn0 := beq_false hn
      obtain ⟨zs, hz, h2⟩ := Res.bind_ok h
      obtain ⟨vz, sz, i, g1, g2, g3, g4, g5, g6, ys, g7, g8, g9, g10⟩ := zeros_ok hC (E := E) hz
      obtain ⟨c1, κ1, f1, w', f2, f3⟩ := storeN_ok (P := P) hf hi g7 h2
      rw [hE] at f1; cases f1
      refine ⟨_, w', E, ?_, .tuple .nil, f3⟩
      unfold Builtin.clear_
      obtain ⟨n, rfl⟩ : ∃ m, n = m + 1 := ⟨n - 1, by omega⟩
      simp only [t0, a0, Sem.run_bind, hts, Result.andThen_ok, g1, g9, f2, Sem.run_pure]
  split at h1
  · cases h1; cases hx
    refine ⟨_, w, E, ?_, .tuple .nil, .refl hf hi⟩
    unfold Builtin.clear_
    simp only [t0, a0, Sem.run_bind, hts, Result.andThen_ok, Sem.run_pure]
  · cases h1; cases hx with | slice0 a c =>
    refine ⟨_, w, E, ?_, .tuple .nil, .refl hf hi⟩
    unfold Builtin.clear_
    simp only [t0, a0, Sem.run_bind, hts, Result.andThen_ok, Sem.run_pure]
  · rename_i e b o n c
    cases hx with | slice _ _ _ hE =>
    exact key e b o n _ _ rfl rfl ⟨_, _, hE, rfl⟩ h1
  · rename_i e b o n k
    cases hx with | slicev _ _ _ hE hn =>
    exact key e b o n _ _ rfl rfl ⟨_, _, hE, rfl⟩ h1
  · cases h1

theorem makeMap_ok {s : St} {t : TypeId} (hf : Free E s.next) (hi : Inv F E s.heap w) : Does P F E s w (Instr.makeMap t none) (.map (some s.next)) (s.new (.map [] 0)) := by
  refine ⟨.map (some w.heap.size), { w with heap := w.heap.push (.map #[] 0) }, upd E s.next (w.heap.size, 0), by simp [Instr.makeMap], .map (upd_same _ _ _), ?_⟩
  exact Stp.new hf hi rfl ⟨#[], rfl, .nil⟩ rfl rfl rfl

include hC in
theorem makeChan_ok {s : St} {t e : TypeId} {dir : ChanDir} {k : IntKind} (hf : Free E s.next) (hi : Inv F E s.heap w) (ht : C.under t = .ok (.chan dir e)) (he : ∃ i, C.info e = some i) :
    Does P F E s w (Instr.makeChan t (.int k 0)) (.chan (some s.next)) (s.new (.chan 0 false 0 0)) := by
  obtain ⟨i, he⟩ := he
  refine ⟨.chan (some w.heap.size), { w with heap := w.heap.push (.chan 0 #[] false 0 0 false) }, upd E s.next (w.heap.size, 0), ?_, .chan (upd_same _ _ _), ?_⟩
  · have h1 : ¬ ((0 : Int) > IntKind.i64.max) := by simp [IntKind.max, IntKind.signed, IntKind.bits]
    have h2 : ¬ ((i.bytes : Int) * 0 > 2 ^ 48 - 112) := by simp
    simp [Instr.makeChan, asInt, asIntOf, run_under hC ht, run_info hC he]
  · exact Stp.new hf hi rfl rfl rfl rfl rfl

include hC in
theorem makeSlice_ok {s : St} {t e : TypeId} {k k' : IntKind} {l c : Nat} {zs : List AV} (hf : Free E s.next) (hi : Inv F E s.heap w) (ht : C.under t = .ok (.slice e)) (hlc : l ≤ c) (hc : c ≤ 1000000)
    (hz : zerosA C e c = .ok zs) : Does P F E s w (Instr.makeSlice t (.int k l) (.int k' c)) (.slice s.next 0 l c) (s.new (.cells zs e none .clean)) := by
  obtain ⟨vz, sz, i, g1, g2, g3, g4, g5, g6, ys, g7, g8, g9, g10⟩ := zeros_ok hC (E := E) hz
  have hle := upd_le (w.heap.size, 0) (hf _ (Nat.le_refl s.next))
  refine ⟨.slice (some ⟨w.heap.size, 0, none⟩) l c, { w with heap := w.heap.push (.cells ys.toArray e) }, upd E s.next (w.heap.size, 0), ?_, .slice _ _ _ (upd_same _ _ _), ?_⟩
  · have wr : ∀ a : Nat, a ≤ 1000000 → IntKind.i64.wrap (a : Int) = a := fun a ha => by
      rw [← wrapA_eq]
      show cond (Nat.ble a 9223372036854775807) (a : Int) _ = a
      have : Nat.ble a 9223372036854775807 = true := by rw [Nat.ble_eq]; omega
      rw [this]; rfl
    have wl := wr l (by omega)
    have wc := wr c hc
    have hb : ¬ ((i.bytes : Int) * (c : Int) > 2 ^ 48) := by
      have : i.bytes * c ≤ 1000000 * 1000000 := Nat.mul_le_mul g6 hc
      have h2 : ((i.bytes * c : Nat) : Int) ≤ 1000000000000 := by omega
      rw [Int.natCast_mul] at h2
      omega
    have hl0 : ¬ (l : Int) < 0 := by omega
    have hc0 : ¬ (c : Int) < 0 := by omega
    have hlc' : ¬ (l : Int) > (c : Int) := by omega
    unfold Instr.makeSlice
    simp only [Sem.run_bind, run_under hC ht, Result.andThen_ok, asInt, asIntOf, Sem.run_pure, g5, wl, wc, hb, hl0, hc0, hlc', decide_false, Bool.or_false, Bool.false_or, Bool.or_self, Bool.false_eq_true, if_false,
      run_askRoom, Int.toNat_natCast, g2, Go.newRow]
    by_cases h0 : c * sz = 0
    · have hc' : c = 0 := by
        rcases Nat.eq_zero_or_pos c with h | h
        · exact h
        · have := Nat.mul_pos h g3; omega
      subst hc'
      have hy : ys = [] := by rw [g10]; rfl
      have hr0 : Array.range 0 = #[] := rfl
      simp [hy, hr0]
    · have := zeros_eq vz.cells c
      rw [g4, ← g10] at this
      simp only [h0, if_false, Sem.run_bind, g1, Result.andThen_ok, Sem.run_pure, g4, this, run_newObj]
  · exact Stp.new hf hi rfl (exactCells (g7.mono hle) _ _) rfl rfl rfl

end Go.Ab

/-! Conversions, strings that share bytes, functions without a body. -/
namespace Go.Ab
variable {P : Program} {C : Ctx} (hC : CtxOK P C) {F : Fr} {E : Blk} {w : World}

theorem toBytes_ok : ∀ {l : List AV} {r : List UInt8} {xs : List Value}, Rels E l xs → toBytes l = .ok r →
    xs = r.map (fun b => Value.int .u8 b.toNat) ∧ ∃ ns : List Int, xs = ns.map (fun n => Value.int .u8 n) ∧ r = ns.map (fun n => UInt8.ofNat n.toNat)
  | [], _, _, hx, h => by cases h; cases hx; exact ⟨rfl, [], rfl, rfl⟩
  | a :: l, r, xs, hx, h => by
    cases hx with | cons h1 t =>
    cases a <;> try (simp [toBytes] at h; done)
    rename_i k n
    cases k <;> try (simp [toBytes] at h; done)
    cases n <;> try (simp [toBytes] at h; done)
    rename_i n
    simp only [toBytes] at h
    obtain ⟨hn, h⟩ := cond_ok h
    have hn := Nat.le_of_ble_eq_true hn
    obtain ⟨r', h2, h3⟩ := Res.bind_ok h
    cases h3
    obtain ⟨h6, ns, h4, h5⟩ := toBytes_ok t h2
    cases h1
    have hb : ((UInt8.ofNat n).toNat : Int) = (n : Int) := by
      have : (UInt8.ofNat n).toNat = n := by rw [UInt8.toNat_ofNat']; exact Nat.mod_eq_of_lt (by omega)
      rw [this]
    refine ⟨?_, (n : Int) :: ns, by simp [h4], by simp [h5]⟩
    rw [h6]
    simp only [List.map_cons, hb]
    rfl

theorem run_bts : ∀ (ns : List Int) (acc : ByteArray) (w : World),
    ((forIn (m := Sem) (ns.map (fun n => Value.int .u8 n)) acc fun c r =>
      match c with
      | .int .u8 n => pure (ForInStep.yield (r.push (UInt8.ofNat n.toNat)))
      | _ => do
        (stuck "bytesToString: byte expected" : Sem PUnit)
        pure (ForInStep.yield r)) : Sem ByteArray).run P w = .ok (acc ++ ⟨(ns.map (fun n => UInt8.ofNat n.toNat)).toArray⟩) w
  | [], acc, w => by
    have : acc ++ ⟨(([] : List Int).map (fun n => UInt8.ofNat n.toNat)).toArray⟩ = acc := by ext1; simp
    rw [this]; simp
  | n :: ns, acc, w => by
    have ih := run_bts ns (acc.push (UInt8.ofNat n.toNat)) w
    simp only [List.map_cons, List.forIn_cons, Sem.run_bind, Sem.run_pure, Result.andThen_ok]
    rw [ih]
    congr 1
    ext1
    simp

theorem loadN_cells {s : St} {b o n : Nat} {l : List AV} (h : Inv F E s.heap w) (hl : loadN s b o n = .ok l) :
    ∃ c κ xs, E b = some (c, κ) ∧ xs.length = n ∧ Rels E l xs ∧ ∀ i, i < n → w.cell? ⟨c, o + i, none⟩ = xs[i]? := by
  unfold loadN at hl
  split at hl
  · rename_i cs e f m hb
    obtain ⟨c, κ, ys, zs, lo, hi, h1, h2, h3, _⟩ := h.cells hb
    obtain ⟨hc1, hc2, hc3⟩ := cut_ok hl
    have hcut := h3.cut hl
    have h5 := hcut.length
    rw [hc2] at h5
    refine ⟨c, κ, (ys.drop o).take n, h1, h5.symm, hcut, fun i hi' => ?_⟩
    simp at h5
    rw [cell_of h2, List.getElem?_take_of_lt hi', List.getElem?_drop]
    simp only [List.getElem?_toArray]
    rw [List.getElem?_append_left (by omega)]
  · cases hl

theorem run_loadBytes {c : Nat} : ∀ (ns : List Int) (o : Nat) (acc : ByteArray) (w : World), (∀ i, i < ns.length → w.cell? ⟨c, o + i, none⟩ = (ns.map (fun n => Value.int .u8 n))[i]?) →
    (Extern.Bytes.loadBytes ⟨c, o, none⟩ ns.length acc).run P w = .ok (acc ++ ⟨(ns.map (fun n => UInt8.ofNat n.toNat)).toArray⟩) w
  | [], o, acc, w, _ => by
    have : acc ++ ⟨(([] : List Int).map (fun n => UInt8.ofNat n.toNat)).toArray⟩ = acc := by ext1; simp
    rw [this]; simp [Extern.Bytes.loadBytes]
  | n :: ns, o, acc, w, h => by
    have h0 := h 0 (by simp)
    simp at h0
    have ih := run_loadBytes (c := c) ns (o + 1) (acc.push (UInt8.ofNat n.toNat)) w (fun i hi => by
      have := h (i + 1) (by simp; omega)
      rw [Nat.add_assoc, Nat.add_comm 1 i]
      simpa using this)
    simp only [List.length_cons, Extern.Bytes.loadBytes, Sem.run_bind, run_load, h0, Result.andThen_ok, Addr.add_none]
    show (Extern.Bytes.loadBytes ⟨c, o + 1, none⟩ ns.length (acc.push (UInt8.ofNat n.toNat))).run P w = _
    rw [ih]
    congr 1
    ext1
    simp

theorem bytes_slice {s : St} {b o n c κ k : Nat} {r : List UInt8} (hi : Inv F E s.heap w) (hE : E b = some (c, κ)) (h : ((loadN s b o n).bind toBytes) = .ok r) :
    (Conv.bytesToString (.slice (some ⟨c, o, none⟩) n k)).run P w = .ok (.string ⟨r.toArray⟩) w ∧ (Extern.Bytes.bytesOf (.slice (some ⟨c, o, none⟩) n k)).run P w = .ok ⟨r.toArray⟩ w := by
  obtain ⟨l, h1, h2⟩ := Res.bind_ok h
  obtain ⟨c', κ', xs, g1, g2, g3, g4⟩ := loadN_cells hi h1
  obtain ⟨c2, κ2, xs2, f1, f2, f3, f4⟩ := loadN_ok hi h1 P
  rw [hE] at g1 f1; cases g1; cases f1
  obtain ⟨_, ns, e1, e2⟩ := toBytes_ok g3 h2
  obtain ⟨_, ns2, e3, e4⟩ := toBytes_ok f3 h2
  subst e1 e3
  have e0 : ∀ a : ByteArray, ByteArray.empty ++ a = a := fun a => by ext1; simp
  constructor
  · unfold Conv.bytesToString
    simp only [Sem.run_bind, f4, Result.andThen_ok]
    rw [← Array.forIn_toList]
    have := run_bts (P := P) ns2 .empty w
    have h2 := congrArg (fun z => Result.andThen z fun a w' => Sem.run P (pure (Value.string a)) w') this
    refine Eq.trans h2 ?_
    rw [e0, ← e4]
    rfl
  · unfold Extern.Bytes.bytesOf
    have hl : n = ns.length := by rw [← g2]; simp
    subst hl
    have := run_loadBytes (P := P) (c := c) ns o .empty w g4
    simp only [this]
    rw [e0, ← e2]

theorem bytesA_ok {s : St} {x : AV} {vx : Value} {r : List UInt8} (hi : Inv F E s.heap w) (hx : Rel E x vx) (h : bytesA s x = .ok r) :
    ((∀ l, x ≠ .str l) → (Conv.bytesToString vx).run P w = .ok (.string ⟨r.toArray⟩) w) ∧ (Extern.Bytes.bytesOf vx).run P w = .ok ⟨r.toArray⟩ w := by
  unfold bytesA at h
  split at h
  · cases h; cases hx
    exact ⟨fun _ => rfl, rfl⟩
  · cases h; cases hx
    exact ⟨fun _ => by simp [Conv.bytesToString, loadCells, loadCellsFrom]; rfl, rfl⟩
  · cases hx with | slice _ _ _ hE =>
    exact ⟨fun _ => (bytes_slice hi hE h).1, (bytes_slice hi hE h).2⟩
  · cases hx with | slicev _ _ _ hE hn =>
    exact ⟨fun _ => (bytes_slice hi hE h).1, (bytes_slice hi hE h).2⟩
  · cases h; cases hx
    exact ⟨fun hs => (hs _ rfl).elim, rfl⟩
  · cases h

end Go.Ab

/-! Conversions. -/
namespace Go.Ab
variable {P : Program} {C : Ctx} (hC : CtxOK P C) {F : Fr} {E : Blk} {w : World}

theorem sameLayout_self (P : Program) (t : TypeId) : sameLayout P P.depth t t = true := by
  obtain ⟨d, hd⟩ : ∃ d, P.depth = d + 1 := ⟨2 * (P.types.size + Made.depth) + 1, by unfold Program.depth; omega⟩
  rw [hd]; unfold sameLayout; simp

theorem liesAt_self (P : Program) (e : TypeId) (count n : Nat) (hs : P.cellsOf e ≠ 0) (hn : n ≤ count) : liesAt P P.depth e count 0 e n = true := by
  obtain ⟨d, hd⟩ : ∃ d, P.depth = d + 1 := ⟨2 * (P.types.size + Made.depth) + 1, by unfold Program.depth; omega⟩
  have hr : rowAt P (fun x => sameLayout P P.depth x e) P.depth e count 0 n = true := by
    rw [hd]
    unfold rowAt
    simp only [hs, if_false, Nat.zero_div, Nat.zero_mod, Nat.zero_add, BEq.rfl, hn, decide_true, Bool.true_and]
    rw [← hd, sameLayout_self]; rfl
  conv => lhs; rw [hd]
  unfold liesAt
  rw [hr]; rfl

include hC in
theorem cellsOf_eq {t : TypeId} {n : Nat} (h : C.sz t = .ok n) : P.cellsOf t = n := by
  obtain ⟨i, hi, he⟩ := Res.bind_ok h
  cases he
  simp [Program.cellsOf, hC.info _ _ (Res.ofOpt_ok hi)]

theorem run_seenAt {c o : Nat} {xs : Array Value} {e : TypeId} {fr : Nat × Nat} (h : w.heap[c]? = some (.cells xs e fr)) : (Conv.seenAt ⟨c, o, none⟩).run P w = .ok ⟨c, o, none⟩ w := by
  simp [Conv.seenAt, run_viewAt h]

theorem shape_of {c : Nat} {xs : Array Value} {e : TypeId} {fr : Nat × Nat} (h : w.heap[c]? = some (.cells xs e fr)) : w.shape? c = some (e, xs.size) := by
  simp [World.shape?, h]

/-- the mark behind the last cell -/
theorem mark_ok {s : St} {b : Nat} {cs : List AV} {e : TypeId} {f : Option Nat} {m : Md} {c κ : Nat} {o : Nat} (hf : Free E s.next) (hi : Inv F E s.heap w) (hb : s.heap.get b = some (.cells cs e f m)) (hm : m ≠ .ro)
    (hE : E b = some (c, κ)) : ∃ w', (markStringish ⟨c, o, none⟩).run P w = .ok () w' ∧ Stp F E s E (s.set b (.cells cs e f .marked)) w' := by
  obtain ⟨c', κ', ys, zs, lo, hi', g1, g2, g3, g4, g5, g6⟩ := hi.cells hb
  rw [hE] at g1; cases g1
  have hn : (ys ++ zs).toArray.size = ys.length + zs.length := by simp
  refine ⟨w.freeze { block := c, off := (ys ++ zs).toArray.size } 1, by simp [markStringish, shape_of g2], .set hf hb ?_⟩
  have hw : (w.freeze { block := c, off := (ys ++ zs).toArray.size } 1).heap[c]? = some (.cells (ys ++ zs).toArray e
      (if lo == hi' then ((ys ++ zs).toArray.size, (ys ++ zs).toArray.size + 1) else (min lo (ys ++ zs).toArray.size, max hi' ((ys ++ zs).toArray.size + 1)))) := by
    simp [World.freeze, Array.getElem?_modify, g2]
  refine Inv.update hi hb (by cases m <;> first | rfl | exact (hm rfl).elim) hE hw ?_ (fun k hk => by simp [World.freeze, Array.getElem?_modify, Ne.symm hk]) (by simp [World.freeze]) (by simp [World.freeze]) (by simp [World.freeze]) (by simp [World.freeze])
  refine ⟨ys, zs, (if lo == hi' then ((ys ++ zs).toArray.size, (ys ++ zs).toArray.size + 1) else (min lo (ys ++ zs).toArray.size, max hi' ((ys ++ zs).toArray.size + 1))).1,
    (if lo == hi' then ((ys ++ zs).toArray.size, (ys ++ zs).toArray.size + 1) else (min lo (ys ++ zs).toArray.size, max hi' ((ys ++ zs).toArray.size + 1))).2, rfl, g3, g4, g5, ?_⟩
  right
  by_cases hlh : lo = hi'
  · simp [hlh]
  · have hb' : (lo == hi') = false := by simpa using hlh
    have : ys.length + zs.length ≤ lo := by
      cases m with
      | clean => exact (hlh g6).elim
      | marked => exact (show lo = hi' ∨ _ from g6).resolve_left hlh
      | ro => exact (hm rfl).elim
    rw [hb', hn]
    simp; omega

include hC in
theorem convA_ok {s : St} {src dst : TypeId} {x : AV} {vx : Value} {r : AV × St} (hf : Free E s.next) (hi : Inv F E s.heap w) (hx : Rel E x vx)
    (h0 : convA C s src dst x = .ok r) : Does P F E s w (convert src dst vx) r.1 r.2 := by
  obtain ⟨ds, hds, h1⟩ := Res.bind_ok h0
  obtain ⟨dd, hdd, h2⟩ := Res.bind_ok h1
  clear h0 h1
  have us : ∀ w, (underlying src).run P w = .ok ds w := fun w => run_under hC hds
  have ud : ∀ w, (underlying dst).run P w = .ok dd w := fun w => run_under hC hdd
  unfold convert
  simp only [Sem.run_bind, us, ud, Result.andThen_ok, Does]
  split at h2
  · rename_i k k' n
    cases h2; cases hx
    refine ⟨.int k (k.wrap n), w, E, ?_, by rw [wrapA_eq]; exact .int _ _, .refl hf hi⟩
    cases ds <;> rfl
  · cases h2; cases hx
    rename_i l
    refine ⟨_, w, E, ?_, .str l, .refl hf hi⟩
    cases ds <;> rfl
  · -- string to bytes
    rename_i e l
    obtain ⟨de, hde, h3⟩ := Res.bind_ok h2
    have ue : ∀ w, (underlying e).run P w = .ok de w := fun w => run_under hC hde
    split at h3
    · cases h3; cases hx
      have hs : (ByteArray.mk l.toArray).size = l.length := by simp [ByteArray.size]
      generalize hκ : l.length + w.tape w.drawn (.appendCap l.length 0 e) % (2 ^ 63 - l.length) = κ
      let arr : Array Value := (l.map fun b => Value.int .u8 b.toNat).toArray ++ Array.replicate (κ - l.length) (.int .u8 0)
      have harr : arr.size = κ := by simp [arr]; omega
      let w1 : World := { w with drawn := w.drawn + 1, heap := w.heap.push (.cells arr e) }
      have hw1 : w1.heap[w.heap.size]? = some (.cells arr e (0, 0)) := by simp [w1]
      let w2 : World := w1.freeze { block := w.heap.size, off := κ } 1
      have hle := upd_le (w.heap.size, κ) (hf _ (Nat.le_refl s.next))
      have hrun : (Conv.stringToBytes e ⟨l.toArray⟩).run P w = .ok (.slice (some ⟨w.heap.size, 0, none⟩) l.length κ) w2 := by
        have hm : (markStringish ⟨w.heap.size, 0, none⟩).run P w1 = .ok () w2 := by simp [markStringish, shape_of hw1, harr, w2]
        have he : (Array.map (fun b : UInt8 => Value.int .u8 b.toNat) (ByteArray.mk l.toArray).data ++ Array.replicate (κ - l.length) (Value.int .u8 0)) = arr := by simp [arr]
        simp only [Conv.stringToBytes, hs, Sem.run_bind, run_choose, Question.forced, Question.cut, Bool.false_eq_true, if_false, Result.andThen_ok, hκ, he, Go.newRow, run_newObj, Sem.run_pure]
        show ((markStringish ⟨w.heap.size, 0, none⟩).run P w1).andThen _ = _
        rw [hm]; rfl
      refine ⟨.slice (some ⟨w.heap.size, 0, none⟩) l.length κ, w2, upd E s.next (w.heap.size, κ), ?_, ?_, ?_⟩
      · cases ds <;> (simp only [Sem.run_bind, ue, Result.andThen_ok]; exact hrun)
      · have := Rel.slicev (E := upd E s.next (w.heap.size, κ)) 0 l.length 0 (upd_same _ _ _) (by omega)
        rw [Nat.sub_zero] at this; exact this
      · have hheap : w2.heap = w.heap.push (.cells arr e (κ, κ + 1)) := by
          apply Array.ext_getElem?
          intro i
          simp only [w2, w1, World.freeze, Nat.one_ne_zero, if_false, Array.getElem?_modify]
          by_cases h : w.heap.size = i
          · subst h; simp
          · simp [h, Array.getElem?_push, Ne.symm h]
        refine Stp.new hf hi hheap ?_ (by simp [w2, w1, World.freeze]) (by simp [w2, w1, World.freeze]) (by simp [w2, w1, World.freeze])
        refine ⟨l.map fun b => Value.int .u8 b.toNat, List.replicate (κ - l.length) (.int .u8 0), κ, κ + 1, by simp [arr], ints_rel l, fun h => (by cases h), fun z hz => ?_, ?_⟩
        · cases hz; simp; omega
        · right; simp; omega
    · cases h3
  · -- bytes to the same
    rename_i e b o n c
    obtain ⟨heq, h3⟩ := cond_ok h2
    have heq := beq_true heq
    subst heq
    rw [hds] at hdd; cases hdd
    obtain ⟨de, hde, h4⟩ := Res.bind_ok h3
    have ue : ∀ w, (underlying e).run P w = .ok de w := fun w => run_under hC hde
    split at h4
    · cases hx with | slice _ _ _ hE =>
      split at h4
      · cases h4
      · rename_i cs e' f m hro hb
        cases h4
        obtain ⟨w', g1, g2⟩ := mark_ok (P := P) (o := o) hf hi hb (fun h => hro h) hE
        refine ⟨_, w', E, ?_, .slice o n c hE, g2⟩
        simp only [BEq.rfl, Sem.run_bind, ue, Result.andThen_ok, g1, Sem.run_pure]
      · cases h4
    · cases h4
  · rename_i e b o n k
    obtain ⟨heq, h3⟩ := cond_ok h2
    have heq := beq_true heq
    subst heq
    rw [hds] at hdd; cases hdd
    obtain ⟨de, hde, h4⟩ := Res.bind_ok h3
    have ue : ∀ w, (underlying e).run P w = .ok de w := fun w => run_under hC hde
    split at h4
    · cases hx with | slicev _ _ _ hE hn =>
      split at h4
      · cases h4
      · rename_i cs e' f m hro hb
        cases h4
        obtain ⟨w', g1, g2⟩ := mark_ok (P := P) (o := o) hf hi hb (fun h => hro h) hE
        refine ⟨_, w', E, ?_, .slicev o n k hE hn, g2⟩
        simp only [BEq.rfl, Sem.run_bind, ue, Result.andThen_ok, g1, Sem.run_pure]
      · cases h4
    · cases h4
  · -- bytes to a string
    rename_i hns
    split at h2
    · rename_i e
      obtain ⟨de, hde, h3⟩ := Res.bind_ok h2
      have ue : ∀ w, (underlying e).run P w = .ok de w := fun w => run_under hC hde
      split at h3
      · split at h3
        · cases h3
        · rename_i hns'
          obtain ⟨l, hl, h4⟩ := Res.bind_ok h3
          cases h4
          have := (bytesA_ok (P := P) hi hx hl).1 (fun l h => hns' l h)
          refine ⟨_, w, E, ?_, .str l, .refl hf hi⟩
          unfold bytesA at hl
          split at hl <;> first
            | exact (hns' _ rfl).elim
            | (cases hl; done)
            | (cases hx <;> simp only [Sem.run_bind, ue, Result.andThen_ok] <;> exact this)
      · cases h3
    · cases h2
  · -- to an unsafe pointer
    split at h2
    · cases h2; cases hx
      exact ⟨_, w, E, by simp [Conv.unsafePointer, us, ud], .pnil, .refl hf hi⟩
    · cases h2
  · rename_i b o
    split at h2
    · rename_i t
      obtain ⟨z, hz, h3⟩ := Res.bind_ok h2
      cases hz0 : Nat.beq z 0 with
      | true => rw [hz0] at h3; cases h3
      | false =>
        rw [hz0] at h3
        simp only [cond_false] at h3
        have hzn := beq_false hz0
        split at h3
        · rename_i cs e f m hb
          obtain ⟨h4, h5⟩ := cond_ok h3
          cases h5
          cases hx with | ptr _ hE =>
          obtain ⟨c', κ', ys, zs, lo, hi', g1, g2, g3, g4, g5, g6⟩ := hi.cells hb
          rw [hE] at g1; cases g1
          have hlt : o < cs.length := by simp only [Nat.blt, Nat.ble_eq] at h4; omega
          have hlt' : ¬ (ys ++ zs).toArray.size ≤ o := by have := g3.length; simp; omega
          refine ⟨_, w, E, ?_, .ptr o hE, .refl hf hi⟩
          simp only [Conv.unsafePointer, Sem.run_bind, us, ud, Result.andThen_ok, run_seenAt g2, cellsIn, run_shape, shape_of g2, Sem.run_pure, run_sz hC hz]
          simp [hzn]
          intro hge
          exact absurd hge (by simpa using hlt')
        · cases h3
    · cases h2
  · -- from one
    split at h2
    · cases h2; cases hx
      exact ⟨_, w, E, by simp [Conv.unsafePointer, us, ud], .pnil, .refl hf hi⟩
    · cases h2
  · rename_i u b o
    split at h2
    · obtain ⟨z, hz, h3⟩ := Res.bind_ok h2
      cases hz0 : Nat.beq z 0 with
      | true => rw [hz0] at h3; cases h3
      | false =>
        rw [hz0] at h3
        simp only [cond_false] at h3
        have hzn := beq_false hz0
        split at h3
        · rename_i cs e m hb
          obtain ⟨h4, h5⟩ := cond_ok h3
          cases h5
          cases hx with | ptr _ hE =>
          simp only [Bool.and_eq_true] at h4
          obtain ⟨⟨j1, j2⟩, j3⟩ := h4
          have j1 := beq_true j1
          have j2 := beq_true j2
          have j3 := beq_true j3
          subst j1 j2
          obtain ⟨c', κ', ys, zs, lo, hi', g1, g2, g3, g4, g5, g6⟩ := hi.cells hb
          rw [hE] at g1; cases g1
          have hsz : (ys ++ zs).toArray.size = z := by have := g3.length; rw [g4 rfl]; simp; omega
          have hco := cellsOf_eq hC hz
          have hlies : liesAt P P.depth e ((ys ++ zs).toArray.size / P.cellsOf e) 0 e 1 = true := by
            rw [hsz, hco, Nat.div_self (by omega)]
            exact liesAt_self P e 1 1 (by omega) (Nat.le_refl _)
          refine ⟨_, w, E, ?_, .ptr 0 hE, .refl hf hi⟩
          simp only [Conv.unsafePointer, Sem.run_bind, us, ud, Result.andThen_ok, run_seenAt g2, run_sz hC hz, variablesAt, run_program, run_shape, shape_of g2, Sem.run_pure, hlies]
          simp
        · cases h3
    · cases h2
  · cases h2

/-! strings that share bytes -/
include hC in
theorem unsafeStringA_ok {s : St} {pt it ty : TypeId} {x n : AV} {vx vn : Value} {r : AV × St} (hf : Free E s.next) (hi : Inv F E s.heap w) (hx : Rel E x vx) (hn : Rel E n vn)
    (h0 : unsafeStringA C s pt x n = .ok r) : Does P F E s w (Builtin.unsafeString_ #[pt, it] ty #[vx, vn]) r.1 r.2 := by
  unfold unsafeStringA at h0
  split at h0
  · rename_i n
    cases hn
    obtain ⟨_, h63, h0'⟩ := Res.bind_ok h0
    have h63 := Nat.le_of_ble_eq_true (cond_ok h63).1
    split at h0'
    · obtain ⟨h1, h2⟩ := cond_ok h0'
      cases h2; cases hx
      have := beq_true h1
      subst this
      exact ⟨.string .empty, w, E, Lib.run_unsafeString_none w _ _ _ none, .str [], .refl hf hi⟩
    · rename_i b o
      cases hx with | ptr _ hE =>
      rename_i c0 κ0
      cases hz : Nat.beq n 0 with
      | true =>
        rw [hz] at h0'
        have := beq_true hz
        subst this
        cases h0'
        exact ⟨.string .empty, w, E, Lib.run_unsafeString_none w _ _ _ _, .str [], .refl hf hi⟩
      | false =>
        rw [hz] at h0'
        have hn0 := beq_false hz
        simp only [cond_false] at h0'
        obtain ⟨dp, hdp, h1⟩ := Res.bind_ok h0'
        split at h1
        · rename_i u
          obtain ⟨z, hzs, h2⟩ := Res.bind_ok h1
          split at h2
          · rename_i cs e f m hb
            obtain ⟨h3, h4⟩ := cond_ok h2
            obtain ⟨l, hl, h5⟩ := Res.bind_ok h4
            obtain ⟨bs, hbs, h6⟩ := Res.bind_ok h5
            cases h6
            simp only [Bool.and_eq_true] at h3
            obtain ⟨⟨⟨j1, j2⟩, j3⟩, j4⟩ := h3
            have j1 := beq_true j1
            have j2 := beq_true j2
            have j3 := beq_true j3
            subst j1 j2 j3
            have hm : m ≠ .ro := by rintro rfl; cases j4
            have hload : loadN s b 0 n = .ok l := by unfold loadN; rw [hb]; exact hl
            obtain ⟨c1, κ1, xs, f1, f2, f3, f4⟩ := loadN_cells hi hload
            rw [hE] at f1; cases f1
            obtain ⟨c2, κ2, ys, zs, lo, hi', g1, g2, g3, g4, g5, g6⟩ := hi.cells hb
            rw [hE] at g1; cases g1
            have q1 := (toBytes_ok f3 hbs).1
            have hbl : bs.length = n := by rw [← f2, q1]; simp
            have hcl := cut_ok hl
            have hg3 := g3.length
            have hsz : n ≤ (ys ++ zs).toArray.size := by
              have h1 := hcl.2.1
              have h2 : l.length ≤ cs.length := by rw [hcl.1]; simp; omega
              simp; omega
            have hbnd : ∀ i x, bs[i]? = some x → w.cell? ((⟨c0, 0, none⟩ : Addr).add i) = some (.int .u8 x.toNat) := by
              intro i x hx
              have hlt : i < bs.length := by
                rcases Nat.lt_or_ge i bs.length with h | h
                · exact h
                · rw [List.getElem?_eq_none h] at hx; cases hx
              rw [Addr.add_none, f4 i (by omega), q1]
              simp [hx]
            have hrun := Lib.run_unsafeString_row (P := P) w pt it ty e (hC.desc _ _ (Res.ofOpt_ok hdp)) (cellsOf_eq hC hzs) _ _ (shape_of g2) bs (by intro h; rw [h] at hbl; exact hn0 hbl.symm) (by omega) (by omega) hbnd
            rw [hbl] at hrun
            refine ⟨_, _, E, hrun, .str bs, .set hf hb ?_⟩
            have hfz : (w.freeze ⟨c0, 0, none⟩ n).heap[c0]? = some (.cells (ys ++ zs).toArray e (if lo == hi' then (0, 0 + n) else (min lo 0, max hi' (0 + n)))) := by
              simp [World.freeze, hn0, Array.getElem?_modify, g2]
            refine Inv.update hi hb (by cases m <;> first | rfl | exact (hm rfl).elim) hE hfz ?_ (fun k hk => by simp [World.freeze, hn0, Array.getElem?_modify, Ne.symm hk]) (by simp [World.freeze, hn0]) (by simp [World.freeze, hn0]) (by simp [World.freeze, hn0]) (by simp [World.freeze, hn0])
            exact ⟨ys, zs, _, _, rfl, g3, g4, g5, trivial⟩
          · cases h2
        · cases h1
    · cases h0'
  · cases h0

end Go.Ab

/-! Functions without a body. -/
namespace Go.Ab
variable {P : Program} {C : Ctx} (hC : CtxOK P C) {F : Fr} {E : Blk} {w : World}

theorem store1_ok {s s' : St} {b o : Nat} {v : AV} {x : Value} (hf : Free E s.next) (hi : Inv F E s.heap w) (hv : Rel E v x) (h : storeN s b o [v] = .ok s') (P : Program) :
    ∃ c κ, E b = some (c, κ) ∧ w.frozen? ⟨c, o, none⟩ = false ∧ Stp F E s E s' (w.setCell ⟨c, o, none⟩ x) := by
  have h0 := h
  unfold storeN at h
  split at h
  · rename_i cs e f m hb
    split at h
    · cases h
    · rename_i hm
      obtain ⟨h1, h2⟩ := cond_ok h
      obtain ⟨r, h3, h4⟩ := Res.bind_ok h2
      have hsp := splice_ok h3
      obtain ⟨c, κ, ys, zs, lo, hi', g1, g2, g3, g4, g5, g6⟩ := hi.cells hb
      have hg3 := g3.length
      have hlt : o < ys.length := by have := hsp.2; simp at this; omega
      have hfr : w.frozen? ⟨c, o, none⟩ = false := by
        rw [frozen_of g2]
        cases m with
        | clean => have : lo = hi' := g6; simp; omega
        | marked => have : lo = hi' ∨ ys.length + zs.length ≤ lo := g6; simp; omega
        | ro => exact (hm rfl).elim
      obtain ⟨c2, κ2, f1, w', f2, f3⟩ := storeN_ok (P := P) hf hi (.cons hv .nil) h0
      rw [g1] at f1; cases f1
      refine ⟨c, κ, g1, hfr, ?_⟩
      have hone : x.oneCell' = true := hv.one (by simpa using h1)
      have hcell : w.cell? ⟨c, o, none⟩ = some ys[o] := by
        rw [cell_of g2]; simp [List.getElem?_append_left hlt, hlt]
      have : (storeCells ⟨c, o, none⟩ [x]).run P w = .ok () (w.setCell ⟨c, o, none⟩ x) := by
        simp [storeCells, Addr.add_none, run_store P w _ x .plain hone, hcell, hfr]
      rw [this] at f2; cases f2
      exact f3
  · cases h

theorem firstAt_ok (c : UInt8) : ∀ (l pre : List UInt8), (match (List.range' pre.length l.length).find? (fun i => (ByteArray.mk (pre ++ l).toArray)[i]! == c) with
    | some i => (i : Int)
    | none => -1) = firstAt c.toNat l pre.length
  | [], pre => by simp [firstAt]
  | b :: l, pre => by
    have ih := firstAt_ok c l (pre ++ [b])
    have hb : (ByteArray.mk (pre ++ b :: l).toArray)[pre.length]! = b := by
      have hs : pre.length < (ByteArray.mk (pre ++ b :: l).toArray).size := by simp [ByteArray.size]
      rw [getElem!_pos (ByteArray.mk (pre ++ b :: l).toArray) pre.length hs]
      show (pre ++ b :: l).toArray[pre.length] = b
      simp
    simp only [List.length_cons, List.range'_succ, List.find?_cons, hb, firstAt]
    have hbc : Nat.beq b.toNat c.toNat = (b == c) := by
      rw [Bool.eq_iff_iff, Nat.beq_eq, beq_iff_eq]
      exact ⟨u8_toNat_inj, fun h => by rw [h]⟩
    rw [hbc]
    cases hc : (b == c) with
    | true => simp
    | false =>
      simp only [cond_false]
      have e1 : pre ++ [b] ++ l = pre ++ b :: l := by simp
      have e2 : (pre ++ [b]).length = pre.length + 1 := by simp
      rw [e1, e2] at ih
      exact ih

theorem indexByte_ok {vx : Value} {l : List UInt8} {c : Int} (h : (Extern.Bytes.bytesOf vx).run P w = .ok ⟨l.toArray⟩ w) :
    (Extern.BytealgIndexByte.indexByte #[vx, .int .u8 c]).run P w = .ok (.int .i64 (firstAt (c.toNat % 256) l 0)) w := by
  have h1 := firstAt_ok c.toNat.toUInt8 l []
  have hc : c.toNat.toUInt8.toNat = c.toNat % 256 := by simp
  rw [hc] at h1
  simp only [List.length_nil, List.nil_append, ← List.range_eq_range'] at h1
  have hs : (ByteArray.mk l.toArray).size = l.length := by simp [ByteArray.size]
  change Sem.run P (do
    let b ← Extern.Bytes.bytesOf vx
    let c' ← Extern.Bytes.asByte (.int .u8 c)
    match (List.range b.size).find? fun i => b[i]! == c' with
    | some i => pure (goInt i)
    | none => pure (goInt (-1))) w = _
  simp only [Sem.run_bind, h, Result.andThen_ok, Extern.Bytes.asByte, Sem.run_pure, hs]
  rw [← h1]
  generalize List.find? (fun i => (ByteArray.mk l.toArray)[i]! == c.toNat.toUInt8) (List.range l.length) = q
  cases q <;> rfl

theorem get_mid (pre : List UInt8) (b : UInt8) (l : List UInt8) : (ByteArray.mk (pre ++ b :: l).toArray)[pre.length]! = b := by
  have hs : pre.length < (ByteArray.mk (pre ++ b :: l).toArray).size := by simp [ByteArray.size]
  rw [getElem!_pos (ByteArray.mk (pre ++ b :: l).toArray) pre.length hs]
  show (pre ++ b :: l).toArray[pre.length] = b
  simp

theorem cmpA_ok : ∀ (x y pre : List UInt8), (match (List.range' pre.length (min x.length y.length)).find? (fun i => (ByteArray.mk (pre ++ x).toArray)[i]! != (ByteArray.mk (pre ++ y).toArray)[i]!) with
    | some i => if (ByteArray.mk (pre ++ x).toArray)[i]! < (ByteArray.mk (pre ++ y).toArray)[i]! then (-1 : Int) else 1
    | none => if x.length < y.length then -1 else if x.length > y.length then 1 else 0) = cmpA x y
  | [], [], pre => by simp [cmpA]
  | [], _ :: _, pre => by simp [cmpA]
  | _ :: _, [], pre => by simp [cmpA]
  | a :: x, b :: y, pre => by
    have ih := cmpA_ok x y (pre ++ [a])
    have hmin : min (a :: x).length (b :: y).length = min x.length y.length + 1 := by simp
    rw [hmin]
    simp only [List.range'_succ, List.find?_cons, get_mid]
    have hbc : Nat.beq a.toNat b.toNat = (a == b) := by
      rw [Bool.eq_iff_iff, Nat.beq_eq, beq_iff_eq]
      exact ⟨u8_toNat_inj, fun h => by rw [h]⟩
    unfold cmpA
    rw [hbc]
    cases hc : (a == b) with
    | true =>
      have : a = b := by simpa using hc
      subst this
      have e1 : ∀ z : List UInt8, pre ++ [a] ++ z = pre ++ a :: z := fun z => by simp
      have e2 : (pre ++ [a]).length = pre.length + 1 := by simp
      rw [e1, e1, e2] at ih
      simp only [bne_self_eq_false, cond_true, List.length_cons, Nat.add_lt_add_iff_right, gt_iff_lt]
      exact ih
    | false =>
      have hne : (a != b) = true := by simpa using hc
      rw [hne]
      simp only [cond_false, get_mid]
      have : Nat.blt a.toNat b.toNat = decide (a < b) := by
        rw [Bool.eq_iff_iff]; simp [Nat.blt, UInt8.lt_iff_toNat_lt, Nat.ble_eq]; omega
      rw [this]
      by_cases h : a < b <;> simp [h]

theorem compare_ok {vx vy : Value} {a b : List UInt8} (h : (Extern.Bytes.bytesOf vx).run P w = .ok ⟨a.toArray⟩ w) (h' : (Extern.Bytes.bytesOf vy).run P w = .ok ⟨b.toArray⟩ w) :
    (Extern.BytealgCompare.compare #[vx, vy]).run P w = .ok (.int .i64 (cmpA a b)) w := by
  have h1 := cmpA_ok a b []
  simp only [List.length_nil, List.nil_append, ← List.range_eq_range'] at h1
  have hs : ∀ l : List UInt8, (ByteArray.mk l.toArray).size = l.length := fun l => by simp [ByteArray.size]
  have hc : Extern.BytealgCompare.cmp ⟨a.toArray⟩ ⟨b.toArray⟩ = cmpA a b := by
    rw [← h1]; unfold Extern.BytealgCompare.cmp; simp only [hs]
    generalize List.find? _ _ = q
    cases q <;> rfl
  change Sem.run P (do pure (goInt (Extern.BytealgCompare.cmp (← Extern.Bytes.bytesOf vx) (← Extern.Bytes.bytesOf vy)))) w = _
  simp only [Sem.run_bind, h, h', Result.andThen_ok, Sem.run_pure, hc, goInt]

/-- what an operation comes to, here and there -/
structure DRel (E : Blk) (d : ADef) (D : Deferred) : Prop where
  mk' :: (h : ∃ cap args : List Value, D = { target := .fn d.fn cap.toArray, args := args.toArray } ∧ Rels E d.captured cap ∧ Rels E d.args args)

theorem DRel.mono {E E' : Blk} (hE : Le E E') {d : ADef} {D : Deferred} (h : DRel E d D) : DRel E' d D := by
  obtain ⟨cap, args, h1, h2, h3⟩ := h.h
  exact ⟨cap, args, h1, h2.mono hE, h3.mono hE⟩

def OpRel (F : Fr) (E : Blk) (s : St) (w : World) (r : Result Next) : OR → Prop
  | .val v s' => ∃ x w' E', (r = .ok (.value x) w' ∨ (r = .ok .skip w' ∧ x = Go.undef)) ∧ Rel E' v x ∧ Stp F E s E' s' w'
  | .enter f args s' => ∃ xs, s' = s ∧ r = .ok (.enter f xs) w ∧ Rels E args xs.toList
  | .defer d s' => ∃ D, s' = s ∧ r = .ok (.defer D) w ∧ DRel E d D
  | .recover => r = .ok .recover w
  | .panic v => ∃ x, r = .halt (.panic x) w ∧ Rel E v x

theorem Does.op {s s' : St} {sm : Sem Value} {v : AV} (h : Does P F E s w sm v s') : OpRel F E s w ((do pure (Next.value (← sm)) : Sem Next).run P w) (.val v s') := by
  obtain ⟨x, w', E', h1, h2, h3⟩ := h
  exact ⟨x, w', E', .inl (by simp [h1]), h2, h3⟩

theorem DoesU.op {s s' : St} {sm : Sem Unit} (_hf : Free E s.next) (h : DoesU P F E s w sm s') : OpRel F E s w ((do sm; pure Next.skip : Sem Next).run P w) (.val .undef s') := by
  obtain ⟨w', E', h1, h3⟩ := h
  exact ⟨_, w', E', .inr ⟨by simp [h1], rfl⟩, .undef, h3⟩

theorem externA_ok {s : St} {f code : Nat} {e : TypeId} {args : List AV} {xs : List Value} {r : OR} (hf : Free E s.next) (hi : Inv F E s.heap w) (hx : Rels E args xs)
    (hE : ExtOK P f code e) (h : externA s code e args = .ok r) : OpRel F E s w ((callFunc f xs.toArray).run P w) r := by
  unfold externA at h
  split at h
  · cases h
    exact ⟨_, w, E, .inl (hE _ _), .tuple .nil, .refl hf hi⟩
  · cases h
    cases hx with | cons h1 t =>
    cases h1 with | ptr o hb =>
    refine ⟨.tuple #[], w, E, .inl ?_, .tuple .nil, .refl hf hi⟩
    obtain ⟨m, hE⟩ := hE
    rw [hE _ _]
    simp [Extern.Race.marked, Extern.Race.at_, Extern.Race.none_]
  · rename_i b o y
    obtain ⟨v, hv, h2⟩ := Res.bind_ok h
    split at h2
    · rename_i x
      simp only at h2
      obtain ⟨s1, h3, h4⟩ := Res.bind_ok h2
      cases h4
      cases hx with | cons h1 t =>
      cases t with | cons h2' t =>
      cases t; cases h2'
      cases h1 with | ptr _ hb =>
      obtain ⟨c1, κ1, old, g1, g2, g3⟩ := load1_ok hi hv
      rw [hb] at g1; cases g1
      cases g3
      rw [wrapA_eq] at h3
      obtain ⟨c2, κ2, f1, f2, f3⟩ := store1_ok (x := .int .i32 (IntKind.i32.wrap (x + y))) hf hi (.int _ _) h3 P
      rw [hb] at f1; cases f1
      refine ⟨_, _, E, .inl ?_, by rw [wrapA_eq]; exact .int _ _, f3⟩
      rw [hE _ _, Conc.run_add_entry g2 f2]; rfl
    · cases h2
  · rename_i b o x y
    obtain ⟨v, hv, h2⟩ := Res.bind_ok h
    split at h2
    · rename_i z
      cases hx with | cons h1 t =>
      cases t with | cons h2' t =>
      cases t with | cons h3' t =>
      cases t; cases h2'; cases h3'
      cases h1 with | ptr _ hb =>
      obtain ⟨c1, κ1, old, g1, g2, g3⟩ := load1_ok hi hv
      rw [hb] at g1; cases g1
      cases g3
      rw [ieq_eq] at h2
      cases hzx : (z == x) with
      | true =>
        rw [hzx] at h2
        have : z = x := by simpa using hzx
        subst this
        simp only [cond_true] at h2
        obtain ⟨s1, h3, h4⟩ := Res.bind_ok h2
        cases h4
        obtain ⟨c2, κ2, f1, f2, f3⟩ := store1_ok (x := .int .i32 y) hf hi (.int _ _) h3 P
        rw [hb] at f1; cases f1
        refine ⟨_, _, E, .inl ?_, .bool _, f3⟩
        rw [hE _ _, Conc.casT_eq, Conc.run_cas_hit_entry g2 f2]; rfl
      | false => rw [hzx] at h2; cases h2
    · cases h2
  · rename_i x c
    obtain ⟨l, hl, h2⟩ := Res.bind_ok h
    cases h2
    cases hx with | cons h1 t =>
    cases t with | cons h2 t =>
    cases t; cases h2
    have := indexByte_ok (c := c) ((bytesA_ok (P := P) hi h1 hl).2)
    refine ⟨_, w, E, .inl ?_, .int _ _, .refl hf hi⟩
    rw [hE _ _, this]; rfl
  · obtain ⟨a, ha, h2⟩ := Res.bind_ok h
    obtain ⟨b, hb, h3⟩ := Res.bind_ok h2
    cases h3
    cases hx with | cons h1 t =>
    cases t with | cons h2 t =>
    cases t
    have := compare_ok ((bytesA_ok (P := P) hi h1 ha).2) ((bytesA_ok (P := P) hi h2 hb).2)
    refine ⟨_, w, E, .inl ?_, .int _ _, .refl hf hi⟩
    rw [hE _ _, this]; rfl
  · cases h
    cases hx with | cons h1 t =>
    cases t
    refine ⟨_, w, E, .inl ?_, h1, .refl hf hi⟩
    rw [hE _ _]; rfl
  · rename_i t b
    obtain ⟨p, hp, h2⟩ := Res.bind_ok h
    cases h2
    cases hx with | cons h1 t' =>
    cases t'
    cases h1 with | iface _ h1 =>
    cases h1 with | map hb =>
    rename_i c κ
    obtain ⟨c', κ', es, g0, g1, g2, g3⟩ := entriesOf_ok hi hp
    rw [hb] at g1; cases g1
    have hle := upd_le (w.heap.size, 0) (hf _ (Nat.le_refl s.next))
    refine ⟨.iface t (.map (some w.heap.size)), { w with heap := w.heap.push (.map es p.2) }, upd E s.next (w.heap.size, 0), .inl ?_, .iface t (.map (upd_same _ _ _)), ?_⟩
    · rw [hE _ _]
      change ((do
        let .map entries clock ← getObj c | stuck "maps.clone: a map expected"
        pure (Value.iface t (.map (some (← newObj (.map entries clock))))) : Sem Value).run P w).andThen _ = _
      simp only [Sem.run_bind, run_getObj_map g2, Result.andThen_ok, run_newObj, Sem.run_pure]
    · exact Stp.new hf hi rfl ⟨es, rfl, g3.mono hle⟩ rfl rfl rfl
  · rename_i n
    obtain ⟨h1, h2⟩ := cond_ok h
    have h1 := Nat.le_of_ble_eq_true h1
    cases h2
    cases hx with | cons h3 t' =>
    cases t'; cases h3
    obtain ⟨ps, t, ht, hrun⟩ := hE
    obtain ⟨cs, c1, c2, c3, c4⟩ := Lib.run_makeNoZero_cap (P := P) w ps t e ht n (by omega)
    refine ⟨.slice (some ⟨w.heap.size, 0, none⟩) n cs.size, w.drew.drew.alloc (.cells cs e), upd E s.next (w.heap.size, cs.size), .inl ?_, ?_, ?_⟩
    · rw [hrun]
      show ((Extern.BytealgMakeNoZero.makeNoZero ps #[t] #[.int .i64 (n : Int)]).run P w).andThen _ = _
      rw [c1]; rfl
    · have := Rel.slicev (E := upd E s.next (w.heap.size, cs.size)) 0 n 0 (upd_same _ _ _) (by omega)
      rw [Nat.sub_zero] at this; exact this
    · refine Stp.new (κ := cs.size) (o := .cells cs e) hf hi rfl ?_ rfl rfl rfl
      exact ⟨[], cs.toList, 0, 0, by simp, .nil, fun h => (by cases h), fun z hz => (by cases hz; simp), rfl⟩
  · cases h

end Go.Ab

/-! One operation. -/
namespace Go.Ab
variable {P : Program} {C : Ctx} (hC : CtxOK P C) {F : Fr} {E : Blk} {w : World}

include hC in
theorem callFn_ok {s : St} {f : Nat} {args : List AV} {xs : List Value} {r : OR} (hf : Free E s.next) (hi : Inv F E s.heap w) (hx : Rels E args xs)
    (h : callFn C s f args = .ok r) : OpRel F E s w ((callFunc f xs.toArray).run P w) r := by
  unfold callFn at h
  split at h
  · rename_i fn hfn
    cases h
    exact ⟨xs.toArray, rfl, hC.call f fn hfn _ _, by simpa using hx⟩
  · split at h
    · rename_i c hc
      exact externA_ok hf hi hx (hC.ext f c.1 c.2 hc) h
    · cases h

include hC in
theorem callMeth_ok {s : St} {recv : AV} {vr : Value} {name : String} {args : List AV} {xs : List Value} {r : OR} (hf : Free E s.next) (hi : Inv F E s.heap w) (hr : Rel E recv vr) (hx : Rels E args xs)
    (h : callMeth C s recv name args = .ok r) : OpRel F E s w ((callMethod vr name xs.toArray).run P w) r := by
  unfold callMeth at h
  split at h
  · rename_i t v
    cases hr with | iface _ hv =>
    rename_i vv
    obtain ⟨i, hi', h1⟩ := Res.bind_ok h
    obtain ⟨m, hm, h2⟩ := Res.bind_ok h1
    obtain ⟨hp, h3⟩ := cond_ok h2
    have hi' := Res.ofOpt_ok hi'
    have hm := Res.ofOpt_ok hm
    split at h3
    · rename_i f p hfp
      obtain ⟨d, hd, h4⟩ := Res.bind_ok h3
      have hd' := run_under hC (w := w) hd
      have hpath : m.path.toList = [] := by simpa using hp
      have key : callFn C s f (v :: args) = .ok r → (receiverAt t (.val vv) p (some ((name.splitOn ".").getLastD name))).run P w = .ok vv w → OpRel F E s w ((callMethod (.iface t vv) name xs.toArray).run P w) r := by
        intro hcall hrec
        have := callFn_ok hC hf hi (.cons hv hx) hcall
        have hrun : (callMethod (.iface t vv) name xs.toArray).run P w = (callFunc f (vv :: xs).toArray).run P w := by
          have hmeth : (method (P.types.size + Made.depth) t vv name).run P w = .ok (f, vv) w := by
            have hfu : P.types.size + Made.depth = (P.types.size + Made.depth - 1) + 1 := by
              have : 1 ≤ Made.depth := by decide
              omega
            rw [hfu]
            unfold method
            simp only [Sem.run_bind, run_info hC hi', Result.andThen_ok, hm, hpath, follow, Sem.run_pure, hfp, hp, if_true]
            simp only [hrec, Result.andThen_ok]
          unfold callMethod
          simp only [Sem.run_bind, run_program, Result.andThen_ok, hmeth]
          congr 2
          simp
        rw [hrun]; exact this
      split at h4
      · exact key h4 (by simp [receiverAt, hd', Place.get])
      · cases h4
      · cases h4
      · rename_i h5 h6
        refine key h4 ?_
        unfold receiverAt
        simp only [Sem.run_bind, hd', Result.andThen_ok]
        cases d <;> first
          | rfl
          | simp_all
    · cases h3
  · cases h

include hC in
theorem invokeA_ok {s : St} {fn : Fn} {cap args : List AV} {vc va : List Value} {r : OR} (hf : Free E s.next) (hi : Inv F E s.heap w) (hc : Rels E cap vc) (ha : Rels E args va)
    (h : invokeA C s fn cap args = .ok r) : OpRel F E s w ((invoke (.fn fn vc.toArray) va.toArray).run P w) r := by
  unfold invokeA at h
  split at h
  · have := callFn_ok hC hf hi (ha.append hc) h
    unfold invoke
    simpa using this
  · rename_i name
    split at h
    · cases ha with | cons h1 t =>
      rename_i recv rest x vs
      have := callMeth_ok hC hf hi h1 t h
      unfold invoke
      simpa using this
    · cases h
  · cases h

theorem mapO_ok {ρ : Env} {ρ' : Operand → Value} (hρ : ∀ x a, ρ x = .ok a → Rel E a (ρ' x)) : ∀ {l : List Operand} {as : List AV}, mapO ρ l = .ok as → Rels E as (l.map ρ')
  | [], _, h => by cases h; exact .nil
  | x :: l, _, h => by
    obtain ⟨a, ha, h1⟩ := Res.bind_ok h
    obtain ⟨as, has, h2⟩ := Res.bind_ok h1
    cases h2
    exact .cons (hρ _ _ ha) (mapO_ok hρ has)

theorem mapP_ok {ρ : Env} {ρ' : Operand → Value} (hρ : ∀ x a, ρ x = .ok a → Rel E a (ρ' x)) : ∀ {l : List (Nat × Operand)} {as : List (Nat × AV)}, mapP ρ l = .ok as → RelP E as (l.map fun p => (p.1, ρ' p.2))
  | [], _, h => by cases h; exact .nil
  | x :: l, _, h => by
    obtain ⟨a, ha, h1⟩ := Res.bind_ok h
    obtain ⟨as, has, h2⟩ := Res.bind_ok h1
    cases h2
    exact .cons (hρ _ _ ha) (mapP_ok hρ has)

theorem optO_ok {ρ : Env} {ρ' : Operand → Value} (hρ : ∀ x a, ρ x = .ok a → Rel E a (ρ' x)) {o : Option Operand} {a : Option AV} (h : optO ρ o = .ok a) : RelO E a (o.map ρ') := by
  cases o with
  | none => cases h; exact .none
  | some x =>
    obtain ⟨a, ha, h1⟩ := Res.bind_ok h
    cases h1
    exact .some (hρ _ _ ha)

theorem split2 {α : Type} {xs : Array α} {a b : α} {l : List α} (h : xs.toList = a :: b :: l) : xs = #[a, b] ++ l.toArray := by
  apply Array.toList_inj.1
  simp [h]

theorem split1 {α : Type} {xs : Array α} {a : α} {l : List α} (h : xs.toList = a :: l) : xs = #[a] ++ l.toArray := by
  apply Array.toList_inj.1
  simp [h]

theorem Rels.inv {a : AV} {l : List AV} {xs : List Value} (h : Rels E (a :: l) xs) : ∃ v vs, xs = v :: vs ∧ Rel E a v ∧ Rels E l vs := by
  cases h with | cons h t =>
  exact ⟨_, _, rfl, h, t⟩

theorem Rels.inv0 {xs : List Value} (h : Rels E [] xs) : xs = [] := by cases h; rfl

include hC in
theorem builtinA_ok {s : St} {b : Builtin} {ats : Array TypeId} {ty : TypeId} {args : List AV} {xs : List Value} {consts : Array Bool} {r : OR} (hf : Free E s.next) (hi : Inv F E s.heap w) (hx : Rels E args xs)
    (h : builtinA C s b ats.toList ty args = .ok r) : OpRel F E s w ((Go.builtin b ats ty consts xs.toArray).run P w) r := by
  unfold builtinA at h
  split at h
  · rename_i t u rest x y more heq
    obtain ⟨du, hdu, h1⟩ := Res.bind_ok h
    split at h1
    · cases h1
    · rename_i hnint
      obtain ⟨q, hq, h2⟩ := Res.bind_ok h1
      cases h2
      obtain ⟨vx, xs1, rfl, h1, t1⟩ := hx.inv
      obtain ⟨vy, xs2, rfl, h2, t2⟩ := t1.inv
      rw [split2 heq]
      have := (appendA_ok hC (ty := ty) hf hi h1 h2 hdu (by cases du <;> first | rfl | exact (hnint _ rfl).elim) hq rest.toArray xs2.toArray).op
      simpa [Go.builtin] using this
  · rename_i t rest x more heq
    obtain ⟨q, hq, h2⟩ := Res.bind_ok h
    cases h2
    obtain ⟨vx, xs1, rfl, h1, t1⟩ := hx.inv
    rw [split1 heq]
    have := ((lenA_ok hC hi h1 (#[t] ++ rest.toArray) (vx :: xs1).toArray ty (by simp) (by simp) hq).does hf hi).op
    simpa [Go.builtin] using this
  · rename_i t rest x more heq
    obtain ⟨q, hq, h2⟩ := Res.bind_ok h
    cases h2
    obtain ⟨vx, xs1, rfl, h1, t1⟩ := hx.inv
    rw [split1 heq]
    have := ((capA_ok hC (w := w) h1 (#[t] ++ rest.toArray) (vx :: xs1).toArray ty (by simp) (by simp) hq).does hf hi).op
    simpa [Go.builtin] using this
  · rename_i t rest x y more heq
    obtain ⟨q, hq, h2⟩ := Res.bind_ok h
    cases h2
    obtain ⟨vx, xs1, rfl, h1, t1⟩ := hx.inv
    obtain ⟨vy, xs2, rfl, h2, t2⟩ := t1.inv
    rw [split1 heq]
    have := (copyA_ok hC (ty := ty) hf hi h1 h2 hq rest.toArray xs2.toArray).op
    simpa [Go.builtin] using this
  · rename_i t rest x more heq
    obtain ⟨q, hq, h2⟩ := Res.bind_ok h
    cases h2
    obtain ⟨vx, xs1, rfl, h1, t1⟩ := hx.inv
    rw [split1 heq]
    have := (clearA_ok hC (ty := ty) hf hi h1 hq rest.toArray xs1.toArray).op
    simpa [Go.builtin] using this
  · rename_i ats' x l heq
    obtain ⟨q, hq, h2⟩ := Res.bind_ok h
    cases h2
    obtain ⟨vx, xs1, rfl, h1, t1⟩ := hx.inv
    have := ((foldMin_ok (P := P) (w := w) h1 t1 hq).does hf hi).op
    simpa [Go.builtin, Builtin.min_] using this
  · rename_i ats' x l heq
    obtain ⟨q, hq, h2⟩ := Res.bind_ok h
    cases h2
    obtain ⟨vx, xs1, rfl, h1, t1⟩ := hx.inv
    have := ((foldMax_ok (P := P) (w := w) h1 t1 hq).does hf hi).op
    simpa [Go.builtin, Builtin.max_] using this
  · cases h
    rfl
  · rename_i ats' x
    obtain ⟨vx, xs1, rfl, h1, t1⟩ := hx.inv
    have := t1.inv0
    subst this
    split at h
    · cases h; cases h1
      exact ⟨.pointer none, w, E, .inl rfl, .pnil, .refl hf hi⟩
    · rename_i b o n c
      cases hc : Nat.beq c 0 with
      | true => rw [hc] at h; cases h
      | false =>
        rw [hc] at h
        cases h
        cases h1 with | slice _ _ _ hE =>
        have hc0 := beq_false hc
        refine ⟨.pointer (some ⟨_, o, none⟩), w, E, .inl ?_, .ptr o hE, .refl hf hi⟩
        simp [Go.builtin, Lib.run_unsafeSliceData_row _ _ _ _ _ _ hc0]
    · rename_i b o n k
      cases hc : Nat.beq n 0 with
      | true => rw [hc] at h; cases h
      | false =>
        rw [hc] at h
        cases h
        cases h1 with | slicev _ _ _ hE hn =>
        rename_i c0 κ0
        have hc0 := beq_false hc
        have hk0 : κ0 - k ≠ 0 := by omega
        refine ⟨.pointer (some ⟨_, o, none⟩), w, E, .inl ?_, .ptr o hE, .refl hf hi⟩
        simp [Go.builtin, Lib.run_unsafeSliceData_row _ _ _ _ _ _ hk0]
    · cases h
  · rename_i t t' x n heq
    obtain ⟨q, hq, h2⟩ := Res.bind_ok h
    cases h2
    obtain ⟨vx, xs1, rfl, h1, t1⟩ := hx.inv
    obtain ⟨vy, xs2, rfl, h2, t2⟩ := t1.inv
    have := t2.inv0
    subst this
    have hats : ats = #[t, t'] := by apply Array.toList_inj.1; simp [heq]
    subst hats
    have := (unsafeStringA_ok hC (ty := ty) (it := t') hf hi h1 h2 hq).op
    simpa [Go.builtin] using this
  · cases h

include hC in
theorem callA_ok {s : St} {ρ : Env} {ρ' : Operand → Value} {c : Call} {ty : TypeId} {r : OR} (hf : Free E s.next) (hi : Inv F E s.heap w) (hρ : ∀ x a, ρ x = .ok a → Rel E a (ρ' x))
    (h : callA C s ρ c ty = .ok r) : OpRel F E s w ((do let d ← resolve ρ' c ty; invoke d.target d.args : Sem Next).run P w) r := by
  obtain ⟨args, hargs, h1⟩ := Res.bind_ok h
  have ha := mapO_ok hρ hargs
  have hmap : c.args.map ρ' = (c.args.toList.map ρ').toArray := by
    apply Array.toList_inj.1; simp
  unfold resolve
  cases hc : c.callee with
  | builtin b =>
    simp only [hc] at h1
    have := builtinA_ok hC (consts := c.args.map fun | .const _ => true | _ => false) hf hi ha h1
    simp only [Sem.run_bind, Sem.run_pure, Result.andThen_ok, invoke, hmap]
    exact this
  | invoke rc name =>
    simp only [hc] at h1
    obtain ⟨vr, hvr, h2⟩ := Res.bind_ok h1
    have := callMeth_ok hC hf hi (hρ _ _ hvr) ha h2
    simp only [Sem.run_bind, Sem.run_pure, Result.andThen_ok, invoke, hmap]
    have htk : List.take c.args.size (List.map ρ' c.args.toList) = List.map ρ' c.args.toList := List.take_of_length_le (by simp)
    simpa [htk] using this
  | value f =>
    simp only [hc] at h1
    obtain ⟨vf, hvf, h2⟩ := Res.bind_ok h1
    have hr := hρ _ _ hvf
    split at h2
    · rename_i fn first captured
      cases hr' : ρ' f with
      | func fn' first' captured' =>
        rw [hr'] at hr
        cases hr with | func _ h3 h4 =>
        rename_i x y
        have := invokeA_ok hC hf hi h4 (h3.append ha) h2
        simp only [Deferred.ofValue, hr', Sem.run_bind, Sem.run_pure, Result.andThen_ok, hmap]
        simpa using this
      | _ => rw [hr'] at hr; cases hr
    · cases h2

theorem deferA_ok {s : St} {ρ : Env} {ρ' : Operand → Value} {c : Call} {ty : TypeId} {r : OR} (hρ : ∀ x a, ρ x = .ok a → Rel E a (ρ' x))
    (h : deferA s ρ c = .ok r) : OpRel F E s w ((do pure (Next.defer (← resolve ρ' c ty)) : Sem Next).run P w) r := by
  obtain ⟨args, hargs, h1⟩ := Res.bind_ok h
  have ha := mapO_ok hρ hargs
  have hmap : c.args.map ρ' = (c.args.toList.map ρ').toArray := by
    apply Array.toList_inj.1; simp
  unfold resolve
  cases hc : c.callee with
  | builtin b => simp only [hc] at h1; cases h1
  | invoke rc name => simp only [hc] at h1; cases h1
  | value f =>
    simp only [hc] at h1
    obtain ⟨vf, hvf, h2⟩ := Res.bind_ok h1
    have hr := hρ _ _ hvf
    split at h2
    · rename_i fn first captured
      cases h2
      cases hr' : ρ' f with
      | func fn' first' captured' =>
        rw [hr'] at hr
        cases hr with | func _ h3 h4 =>
        rename_i x y
        refine ⟨_, rfl, ?_, ⟨⟨y, x ++ c.args.toList.map ρ', rfl, h4, h3.append ha⟩⟩⟩
        simp only [Deferred.ofValue, hr', Sem.run_bind, Sem.run_pure, Result.andThen_ok, hmap]
        simp
      | _ => rw [hr'] at hr; cases hr
    · cases h2

theorem ok1_ok {s : St} {x : Res AV} {r : OR} (h : ok1 x s = .ok r) : ∃ v, x = .ok v ∧ r = .val v s := by
  obtain ⟨v, h1, h2⟩ := Res.bind_ok h
  cases h2; exact ⟨v, h1, rfl⟩

theorem ok2_ok {x : Res (AV × St)} {r : OR} (h : ok2 x = .ok r) : ∃ p, x = .ok p ∧ r = .val p.1 p.2 := by
  obtain ⟨p, h1, h2⟩ := Res.bind_ok h
  cases h2; exact ⟨p, h1, rfl⟩

theorem okS_ok {x : Res St} {r : OR} (h : okS x = .ok r) : ∃ s, x = .ok s ∧ r = .val .undef s := by
  obtain ⟨p, h1, h2⟩ := Res.bind_ok h
  cases h2; exact ⟨p, h1, rfl⟩

theorem plain_op {s : St} {v : AV} {x : Value} (hf : Free E s.next) (hi : Inv F E s.heap w) (h : Rel E v x) : OpRel F E s w (.ok (.value x) w) (.val v s) :=
  ⟨x, w, E, .inl rfl, h, .refl hf hi⟩

include hC in
theorem opA_ok {s : St} {ρ : Env} {ρ' : Operand → Value} {o : Oper} {r : OR} (hf : Free E s.next) (hi : Inv F E s.heap w) (hρ : ∀ x a, ρ x = .ok a → Rel E a (ρ' x))
    (h : opA C s ρ o = .ok r) : OpRel F E s w ((execOp ρ' o).run P w) r := by
  obtain ⟨dst, op, type, pos, after, guard⟩ := o
  unfold opA at h
  unfold execOp
  cases op <;> simp only at h ⊢ <;> try (cases h; done)
  case move x =>
    obtain ⟨v, h1, rfl⟩ := ok1_ok h
    exact plain_op hf hi (hρ _ _ h1)
  case assign x =>
    obtain ⟨v, h1, rfl⟩ := ok1_ok h
    exact plain_op hf hi (hρ _ _ h1)
  case pick c a b =>
    obtain ⟨vc, h1, h2⟩ := Res.bind_ok h
    have hc := hρ _ _ h1
    split at h2
    · rename_i q
      cases hc' : ρ' c with
      | bool q' =>
        rw [hc'] at hc
        cases hc
        cases q <;> simp only [cond_true, cond_false] at h2 <;> obtain ⟨v, h3, rfl⟩ := ok1_ok h2 <;> simp [asBool] <;> exact plain_op hf hi (hρ _ _ h3)
      | _ => rw [hc'] at hc; cases hc
    · cases h2
  case alloc e =>
    obtain ⟨z, hz, h2⟩ := Res.bind_ok h
    obtain ⟨p, h3, rfl⟩ := ok2_ok h2
    cases h3
    exact (alloc_ok hC hf hi hz).op
  case box e x =>
    obtain ⟨v, hv, h2⟩ := Res.bind_ok h
    obtain ⟨p, h3, rfl⟩ := ok2_ok h2
    cases h3
    exact (box_ok hf hi (hρ _ _ hv)).op
  case build t ps =>
    obtain ⟨l, hl, h2⟩ := Res.bind_ok h
    obtain ⟨v, h3, rfl⟩ := ok1_ok h2
    have := ((buildA_ok hC (w := w) (mapP_ok hρ hl) h3).does hf hi).op
    have hm : (ps.map fun (i, x) => (i, ρ' x)) = (ps.toList.map fun p => (p.1, ρ' p.2)).toArray := by apply Array.toList_inj.1; simp
    rw [hm]; exact this
  case buildSlice t n ps =>
    obtain ⟨l, hl, h2⟩ := Res.bind_ok h
    obtain ⟨p, h3, rfl⟩ := ok2_ok h2
    have := (buildSliceA_ok hC hf hi (mapP_ok hρ hl) h3).op
    have hm : (ps.map fun (i, x) => (i, ρ' x)) = (ps.toList.map fun p => (p.1, ρ' p.2)).toArray := by apply Array.toList_inj.1; simp
    rw [hm]; exact this
  case load t a =>
    obtain ⟨v, hv, h2⟩ := Res.bind_ok h
    have hr := hρ _ _ hv
    split at h2
    · obtain ⟨u, h3, rfl⟩ := ok1_ok h2
      obtain ⟨c, κ, g1, g2⟩ := loadV_ok hC hi h3
      have hg : Gives P E w (Instr.loadAt t (ρ' a)) u := by
        generalize ρ' a = va at *
        cases hr with | ptr _ hb =>
        rw [hb] at g1; cases g1
        obtain ⟨x, q1, q2⟩ := g2
        exact ⟨x, by simp [Instr.loadAt, Instr.sureAddr, q1], q2⟩
      exact (hg.does hf hi).op
    · obtain ⟨u, h3, rfl⟩ := ok1_ok h2
      obtain ⟨c, κ, g1, g2⟩ := loadT_ok hC hi h3
      have hg : Gives P E w (Instr.loadAt t (ρ' a)) u := by
        generalize ρ' a = va at *
        cases hr with | tptr _ hb =>
        rw [hb] at g1; cases g1
        obtain ⟨x, q1, q2⟩ := g2
        exact ⟨x, by simp [Instr.loadAt, Instr.sureAddr, q1], q2⟩
      exact (hg.does hf hi).op
    · cases h2
  case store t a x =>
    obtain ⟨v, hv, h2⟩ := Res.bind_ok h
    have hr := hρ _ _ hv
    split at h2
    · obtain ⟨u, hu, h3⟩ := Res.bind_ok h2
      obtain ⟨s', h4, rfl⟩ := okS_ok h3
      have hx := hρ _ _ hu
      generalize ρ' a = va at *
      cases hr with | ptr _ hb =>
      exact (storeV_ok hC hf hi hx hb h4).op hf
    · cases h2
  case nilCheck x =>
    obtain ⟨v, hv, h2⟩ := Res.bind_ok h
    have hr := hρ _ _ hv
    generalize ρ' x = vx at *
    split at h2 <;> first
      | (cases h2; done)
      | (cases h2; cases hr <;> exact plain_op hf hi (by constructor <;> assumption))
  case binOp op t x y yt =>
    obtain ⟨a, ha, h2⟩ := Res.bind_ok h
    obtain ⟨b, hb, h3⟩ := Res.bind_ok h2
    obtain ⟨v, h4, rfl⟩ := ok1_ok h3
    exact ((binA_ok hC hi (hρ _ _ ha) (hρ _ _ hb) h4).does hf hi).op
  case unOp op t x =>
    obtain ⟨a, ha, h2⟩ := Res.bind_ok h
    have hr := hρ _ _ ha
    generalize ρ' x = vx at *
    split at h2
    · cases h2; cases hr
      exact plain_op hf hi (.bool _)
    · rename_i k n
      cases h2; cases hr
      have : Gives P E w (Op.unary .neg (.int k n)) (.int k (wrapA k (0 - n))) := ⟨.int k (k.wrap (0 - n)), by simp [Op.unary, Op.intArith], by rw [wrapA_eq]; exact .int _ _⟩
      exact (this.does hf hi).op
    · cases h2
  case convert a b x =>
    obtain ⟨v, hv, h2⟩ := Res.bind_ok h
    obtain ⟨p, h3, rfl⟩ := ok2_ok h2
    exact (convA_ok hC hf hi (hρ _ _ hv) h3).op
  case makeInterface t x =>
    obtain ⟨v, hv, h2⟩ := Res.bind_ok h
    obtain ⟨d, hd, h3⟩ := Res.bind_ok h2
    have hr := hρ _ _ hv
    split at h3
    · cases h3
    · rename_i hni
      cases h3
      have : Gives P E w (Instr.makeInterface t (ρ' x)) (.iface t v) := by
        refine ⟨_, ?_, .iface t hr⟩
        simp only [Instr.makeInterface, Sem.run_bind, run_under hC hd, Result.andThen_ok]
        cases d <;> first | rfl | exact (hni _ rfl).elim
      exact (this.does hf hi).op
  case makeFunc fn a b =>
    obtain ⟨la, hla, h2⟩ := Res.bind_ok h
    obtain ⟨lb, hlb, h3⟩ := Res.bind_ok h2
    cases h3
    have h1 := mapO_ok hρ hla
    have h2 := mapO_ok hρ hlb
    have hm : ∀ xs : Array Operand, xs.map ρ' = (xs.toList.map ρ').toArray := fun xs => by apply Array.toList_inj.1; simp
    simp only [Instr.makeFunc, Sem.run_bind, Sem.run_pure, Result.andThen_ok, hm]
    exact plain_op hf hi (.func fn h1 h2)
  case makeMap t r' =>
    split at h
    · cases h
      exact (makeMap_ok hf hi).op
    · cases h
  case makeChan t n =>
    obtain ⟨v, hv, h2⟩ := Res.bind_ok h
    have hr := hρ _ _ hv
    generalize ρ' n = vn at *
    split at h2
    · obtain ⟨d, hd, h3⟩ := Res.bind_ok h2
      split at h3
      · obtain ⟨z, hz, h4⟩ := Res.bind_ok h3
        obtain ⟨i, hi', _⟩ := Res.bind_ok hz
        cases h4; cases hr
        exact (makeChan_ok hC hf hi hd ⟨i, Res.ofOpt_ok hi'⟩).op
      · cases h3
    · cases h2
  case makeSlice t l c =>
    obtain ⟨v, hv, h2⟩ := Res.bind_ok h
    have hr := hρ _ _ hv
    generalize ρ' l = vl at *
    split at h2
    · obtain ⟨v', hv', h3⟩ := Res.bind_ok h2
      have hr' := hρ _ _ hv'
      generalize ρ' c = vc at *
      split at h3
      · obtain ⟨d, hd, h4⟩ := Res.bind_ok h3
        split at h4
        · obtain ⟨h5, h6⟩ := cond_ok h4
          obtain ⟨zs, hz, h7⟩ := Res.bind_ok h6
          cases h7; cases hr; cases hr'
          simp only [Bool.and_eq_true] at h5
          exact (makeSlice_ok hC hf hi hd (Nat.le_of_ble_eq_true h5.1) (Nat.le_of_ble_eq_true h5.2) hz).op
        · cases h4
      · cases h3
    · cases h2
  case slice t x lo hi' mx =>
    obtain ⟨v, hv, h2⟩ := Res.bind_ok h
    obtain ⟨lo1, hlo, h3⟩ := Res.bind_ok h2
    obtain ⟨hi1, hhi, h4⟩ := Res.bind_ok h3
    obtain ⟨mx1, hmx, h5⟩ := Res.bind_ok h4
    obtain ⟨u, h6, rfl⟩ := ok1_ok h5
    exact ((sliceA_ok hC hi (hρ _ _ hv) (optO_ok hρ hlo) (optO_ok hρ hhi) (optO_ok hρ hmx) h6).does hf hi).op
  case fieldAddr t x f =>
    obtain ⟨v, hv, h2⟩ := Res.bind_ok h
    obtain ⟨u, h6, rfl⟩ := ok1_ok h2
    exact ((fieldAddrA_ok hC (hρ _ _ hv) h6).does hf hi).op
  case field t x f =>
    obtain ⟨v, hv, h2⟩ := Res.bind_ok h
    obtain ⟨u, h6, rfl⟩ := ok1_ok h2
    exact ((fieldA_ok hC (hρ _ _ hv) h6).does hf hi).op
  case indexAddr t x i =>
    obtain ⟨v, hv, h2⟩ := Res.bind_ok h
    obtain ⟨v', hv', h3⟩ := Res.bind_ok h2
    obtain ⟨u, h6, rfl⟩ := ok1_ok h3
    exact ((indexAddrA_ok hC (hρ _ _ hv) (hρ _ _ hv') h6).does hf hi).op
  case index t x i =>
    obtain ⟨v, hv, h2⟩ := Res.bind_ok h
    obtain ⟨v', hv', h3⟩ := Res.bind_ok h2
    obtain ⟨u, h6, rfl⟩ := ok1_ok h3
    exact ((indexA_ok hC (hρ _ _ hv) (hρ _ _ hv') h6).does hf hi).op
  case lookup t x k ok =>
    obtain ⟨v, hv, h2⟩ := Res.bind_ok h
    obtain ⟨v', hv', h3⟩ := Res.bind_ok h2
    obtain ⟨u, h6, rfl⟩ := ok1_ok h3
    exact ((lookupA_ok hC hi (hρ _ _ hv) (hρ _ _ hv') h6).does hf hi).op
  case mapUpdate t m k x =>
    obtain ⟨a, ha, h2⟩ := Res.bind_ok h
    obtain ⟨b, hb, h3⟩ := Res.bind_ok h2
    obtain ⟨c, hc, h4⟩ := Res.bind_ok h3
    obtain ⟨s', h5, rfl⟩ := okS_ok h4
    exact (mapSet_ok hC hf hi (hρ _ _ ha) (hρ _ _ hb) (hρ _ _ hc) h5).op hf
  case insert t m k x =>
    obtain ⟨a, ha, h2⟩ := Res.bind_ok h
    obtain ⟨b, hb, h3⟩ := Res.bind_ok h2
    obtain ⟨c, hc, h4⟩ := Res.bind_ok h3
    obtain ⟨s', h5, rfl⟩ := okS_ok h4
    exact (mapSet_ok hC hf hi (hρ _ _ ha) (hρ _ _ hb) (hρ _ _ hc) h5).op hf
  case range t x =>
    obtain ⟨v, hv, h2⟩ := Res.bind_ok h
    obtain ⟨d, hd, h3⟩ := Res.bind_ok h2
    have hr := hρ _ _ hv
    generalize ρ' x = vx at *
    split at h3
    · rename_i l
      cases h3; cases hr
      have : Does P F E s w (Instr.range t (.string ⟨l.toArray⟩)) (.ptr s.next 0) (s.new (.siter l 0)) := by
        refine ⟨.pointer (some ⟨w.heap.size, 0, none⟩), { w with heap := w.heap.push (.stringIter ⟨l.toArray⟩ 0) }, upd E s.next (w.heap.size, 0), ?_, .ptr 0 (upd_same _ _ _), ?_⟩
        · simp only [Instr.range, Sem.run_bind, run_under hC hd, Result.andThen_ok, Sem.run_pure, run_newObj]
        · exact Stp.new hf hi rfl rfl rfl rfl rfl
      exact this.op
    · cases h3
  case next it isS =>
    obtain ⟨v, hv, h2⟩ := Res.bind_ok h
    have hr := hρ _ _ hv
    generalize ρ' it = vi at *
    split at h2
    · rename_i b
      cases hr with | ptr _ hb =>
      rename_i c κ
      split at h2
      · rename_i l p hobj
        obtain ⟨c', κ', o, g1, g2, g3⟩ := hi.obj _ _ hobj
        rw [hb] at g1; cases g1
        have g3 : o = .stringIter ⟨l.toArray⟩ p := g3
        subst g3
        have hlt : c < w.heap.size := by
          rcases Nat.lt_or_ge c w.heap.size with h | h
          · exact h
          · rw [Array.getElem?_eq_none h] at g2; cases g2
        have hget : (getObj c).run P w = .ok (.stringIter ⟨l.toArray⟩ p) w := by simp [getObj, Sem.run, g2]
        have hs : (ByteArray.mk l.toArray).size = l.length := by simp [ByteArray.size]
        split at h2
        · rename_i byte hbyte
          obtain ⟨h3, h4⟩ := cond_ok h2
          cases h4
          rw [lget_eq] at hbyte
          have hpl : p < l.length := by
            rcases Nat.lt_or_ge p l.length with h | h
            · exact h
            · rw [List.getElem?_eq_none h] at hbyte; cases hbyte
          have hasc : byte.toNat < 128 := by simp only [Nat.blt, Nat.ble_eq] at h3; omega
          have hdec : Utf8.decode ⟨l.toArray⟩ p = (byte.toNat, 1) := by
            have hg : (ByteArray.mk l.toArray).get! p = byte := by
              rw [List.getElem?_eq_getElem hpl] at hbyte
              cases hbyte
              show (l.toArray)[p]! = l[p]
              simp [hpl]
            simp only [Utf8.decode, Nat.add_zero, hg]
            rw [if_pos hasc]
          have hset : (setObj c (.stringIter ⟨l.toArray⟩ (p + 1))).run P w = .ok () { w with heap := w.heap.setIfInBounds c (.stringIter ⟨l.toArray⟩ (p + 1)) } := by simp [setObj, Sem.run, g2]
          have : Does P F E s w (Instr.next (.pointer (some ⟨c, 0, none⟩)) true type) (.tuple [.bool true, .int .i64 p, .int .i32 byte.toNat]) (s.set b (.siter l (p + 1))) := by
            refine ⟨_, { w with heap := w.heap.setIfInBounds c (.stringIter ⟨l.toArray⟩ (p + 1)) }, E, ?_, .tuple (.cons (.bool _) (.cons (.int _ _) (.cons (.int _ _) .nil))), .set hf hobj ?_⟩
            · simp only [Instr.next, Sem.run_bind, hget, Result.andThen_ok, hs, hpl, if_true, hdec, hset, Sem.run_pure, goInt]
            · exact Inv.update hi hobj rfl hb (by simp [hlt]) rfl (fun k hk => by simp [Ne.symm hk]) (by simp) rfl rfl rfl
          exact this.op
        · rename_i hnone
          cases h2
          rw [lget_eq] at hnone
          have hpl : ¬ p < l.length := by
            intro h
            rw [List.getElem?_eq_getElem h] at hnone; cases hnone
          have : Gives P E w (Instr.next (.pointer (some ⟨c, 0, none⟩)) true type) (.tuple [.bool false]) :=
            ⟨_, by simp only [Instr.next, Sem.run_bind, hget, Result.andThen_ok, hs, hpl, if_false, Sem.run_pure], .tuple (.cons (.bool _) .nil)⟩
          exact (this.does hf hi).op
      · cases h2
    · cases h2
  case typeAssert x xt t ok =>
    obtain ⟨v, hv, h2⟩ := Res.bind_ok h
    obtain ⟨d, hd, h3⟩ := Res.bind_ok h2
    have hr := hρ _ _ hv
    generalize ρ' x = vx at *
    have hu := run_under hC (w := w) hd
    have two : ∀ (a : AV) (va : Value) (b : Bool), Rel E a va → Rel E (.tuple [a, .bool b]) (.tuple #[va, .bool b]) := fun a va b ha => .tuple (.cons ha (.cons (.bool _) .nil))
    split at h3
    · cases h3
    · rename_i hni
      split at h3
      · rename_i u y
        cases hr with | iface _ hy =>
        rename_i vy
        cases hut : Nat.beq u t with
        | true =>
          rw [hut] at h3
          have := beq_true hut
          subst this
          cases h3
          have : Gives P E w (Instr.typeAssert (.iface u vy) xt u ok) (cond ok (.tuple [y, .bool true]) y) := by
            cases ok
            · refine ⟨vy, ?_, hy⟩
              simp only [Instr.typeAssert, Sem.run_bind, hu, Result.andThen_ok]
              cases d <;> first | (simp; done) | exact (hni _ rfl).elim
            · refine ⟨.tuple #[vy, .bool true], ?_, two _ _ _ hy⟩
              simp only [Instr.typeAssert, Sem.run_bind, hu, Result.andThen_ok]
              cases d <;> first | (simp; done) | exact (hni _ rfl).elim
          exact (this.does hf hi).op
        | false =>
          rw [hut] at h3
          have hne := beq_false hut
          cases ok with
          | false => cases h3
          | true =>
            simp only [cond_true, cond_false] at h3
            obtain ⟨z, hz, h4⟩ := Res.bind_ok h3
            cases h4
            obtain ⟨vz, z1, z2⟩ := run_zero hC (E := E) hz
            have : Gives P E w (Instr.typeAssert (.iface u vy) xt t true) (.tuple [z, .bool false]) := by
              refine ⟨.tuple #[vz, .bool false], ?_, two _ _ _ z1⟩
              simp only [Instr.typeAssert, Sem.run_bind, hu, Result.andThen_ok]
              cases d <;> first | (simp [hne, z2]; done) | exact (hni _ rfl).elim
            exact (this.does hf hi).op
      · cases ok with
        | false => cases h3
        | true =>
          simp only [cond_true] at h3
          obtain ⟨z, hz, h4⟩ := Res.bind_ok h3
          cases h4; cases hr
          obtain ⟨vz, z1, z2⟩ := run_zero hC (E := E) hz
          have : Gives P E w (Instr.typeAssert .nilIface xt t true) (.tuple [z, .bool false]) := by
            refine ⟨.tuple #[vz, .bool false], ?_, two _ _ _ z1⟩
            simp only [Instr.typeAssert, Sem.run_bind, hu, Result.andThen_ok]
            cases d <;> first | (simp [z2]; done) | exact (hni _ rfl).elim
          exact (this.does hf hi).op
      · cases h3
  case extract x i =>
    obtain ⟨v, hv, h2⟩ := Res.bind_ok h
    have hr := hρ _ _ hv
    generalize ρ' x = vx at *
    split at h2
    · obtain ⟨u, h3, rfl⟩ := ok1_ok h2
      cases hr with | tuple hr =>
      rename_i xs
      obtain ⟨y, g1, g2⟩ := hr.lget i (Res.ofOpt_ok h3)
      have : Gives P E w (Instr.extract (.tuple xs.toArray) i) u := ⟨y, by simp [Instr.extract, g1], g2⟩
      exact (this.does hf hi).op
    · cases h2
  case call c => exact callA_ok hC hf hi hρ h
  case defer c => exact deferA_ok hρ h
  case panic x =>
    obtain ⟨v, hv, h2⟩ := Res.bind_ok h
    have hr := hρ _ _ hv
    generalize ρ' x = vx at *
    split at h2
    · cases h2
      cases hr with | iface _ hr =>
      exact ⟨_, by simp [Instr.panic] <;> rfl, .iface _ hr⟩
    · cases h2

end Go.Ab
