/-
  The abstract evaluator: the laws of code, calls, defers and of what is recovered. No condition.
-/
import Derived.Recover
import Derived.Scope
import Derived.Test.YtiocolgkkdfokaaGreatDoorEvB
/-! A body of code, and a call: what the evaluator says of it. -/
namespace Go.Ab
variable {P : Program} {C : Ctx} {F : Fr} {E E' E'' : Blk} {w w' w'' : World}

def Slots (E : Blk) (tm : Tr AV) (tmps : Array Value) : Prop := ∀ t av, tm.get t = some av → Rel E av (tmps.getD t undef)

theorem Slots.mono (hE : Le E E') {tm : Tr AV} {tmps : Array Value} (h : Slots E tm tmps) : Slots E' tm tmps := fun t av ht => (h t av ht).mono hE

theorem Slots.put {tm : Tr AV} {tmps : Array Value} {d : Nat} {v : AV} {x : Value} (h : Slots E tm tmps) (hv : Rel E v x) (hd : d < tmps.size) :
    Slots E (putT tm (some d) v) (tmps.setIfInBounds d x) := by
  intro t av ht
  have ht : (Tr.put (some v) dep tm d).get t = some av := ht
  rcases Tr.get_put _ _ _ _ _ _ ht with ⟨rfl, h2⟩ | ⟨hne, h2⟩
  · cases h2
    simp [hd]; exact hv
  · have := h t av h2
    simp only [Array.getD_eq_getD_getElem?] at this ⊢
    rw [Array.getElem?_setIfInBounds_ne (Ne.symm hne)]
    exact this

inductive DRels (E : Blk) : List ADef → List Deferred → Prop
  | nil : DRels E [] []
  | cons {d : ADef} {D : Deferred} {l : List ADef} {L : List Deferred} (h : DRel E d D) (t : DRels E l L) : DRels E (d :: l) (D :: L)

theorem DRels.mono (hE : Le E E') {l : List ADef} {L : List Deferred} (h : DRels E l L) : DRels E' l L := by
  induction h with
  | nil => exact .nil
  | cons h t ih => exact .cons (h.mono hE) ih

structure ActRel (E : Blk) (a : Ac) (t : Act) : Prop where
  n : a.n ≤ t.tmps.size
  slots : Slots E a.tm t.tmps
  df : DRels E a.df t.defers

theorem ActRel.mono (hE : Le E E') {a : Ac} {t : Act} (h : ActRel E a t) : ActRel E' a t := ⟨h.n, h.slots.mono hE, h.df.mono hE⟩

def Globs (C : Ctx) (E : Blk) : Prop := ∀ g, g < C.globs → E g = some (g, 0)

theorem Globs.mono (hE : Le E E') (h : Globs C E) : Globs C E' := fun g hg => hE _ _ (h g hg)

structure Pre (C : Ctx) (F : Fr) (E : Blk) (s : St) (w : World) : Prop where
  free : Free E s.next
  inv : Inv F E s.heap w
  globs : Globs C E

theorem Pre.step {s s' : St} (h : Pre C F E s w) (hs : Stp F E s E' s' w') : Pre C F E' s' w' := ⟨hs.free, hs.inv, h.globs.mono (hs.Le h.free)⟩

theorem evalO_ok (hg : Globs C E) {tm : Tr AV} {act : Act} (hs : Slots E tm act.tmps) {x : Operand} {v : AV} (h : evalO C tm x = .ok v) : Rel E v (act.eval x) := by
  cases x with
  | tmp t => exact hs t v (Res.ofOpt_ok h)
  | const c => exact absV_rel (Res.ofOpt_ok h)
  | global g =>
    obtain ⟨h1, h2⟩ := cond_ok h
    cases h2
    have : g < C.globs := by
      have := Nat.le_of_ble_eq_true h1; omega
    exact .tptr 0 (hg g this)
  | func f => cases h; exact .func _ .nil .nil

structure PRel (E : Blk) (p : PE) (e : PanicEntry) : Prop where
  mk' :: (h : ∃ v, e = { v, recovered := p.done, goexit := false } ∧ Rel E p.v v)

theorem PRel.mono (hE : Le E E') {p : PE} {e : PanicEntry} (h : PRel E p e) : PRel E' p e := by
  obtain ⟨v, h1, h2⟩ := h.h; exact ⟨v, h1, h2.mono hE⟩

inductive PRels (E : Blk) : List PE → List PanicEntry → Prop
  | nil : PRels E [] []
  | cons {d : PE} {D : PanicEntry} {l : List PE} {L : List PanicEntry} (h : PRel E d D) (t : PRels E l L) : PRels E (d :: l) (D :: L)

theorem PRels.mono (hE : Le E E') {l : List PE} {L : List PanicEntry} (h : PRels E l L) : PRels E' l L := by
  induction h with
  | nil => exact .nil
  | cons h t ih => exact .cons (h.mono hE) ih

theorem PRels.append {l l' : List PE} {L L' : List PanicEntry} (h : PRels E l L) (h' : PRels E l' L') : PRels E (l ++ l') (L ++ L') := by
  induction h with
  | nil => exact h'
  | cons h t ih => exact .cons h ih

theorem PRels.noGoexit {l : List PE} {L : List PanicEntry} (h : PRels E l L) : L.dropWhile (!·.goexit) = [] := by
  induction h with
  | nil => rfl
  | cons h t ih =>
    obtain ⟨v, h1, _⟩ := h.h
    subst h1
    simpa using ih

inductive URel (E : Blk) : UM → FrameMode → Prop
  | ret : URel E .returning .returning
  | pan {l : List PE} {L : List PanicEntry} (h : PRels E l L) : URel E (.panicking l) (.panicking L)

theorem URel.mono (hE : Le E E') {u : UM} {m : FrameMode} (h : URel E u m) : URel E' u m := by
  cases h with
  | ret => exact .ret
  | pan h => exact .pan (h.mono hE)

theorem URel.ne {u : UM} {m : FrameMode} (h : URel E u m) : m ≠ .run := by cases h <;> simp

theorem URel.settle {u : UM} {m : FrameMode} (h : URel E u m) : URel E (settleA u) (Go.settle m) := by
  cases h with
  | ret => exact .ret
  | pan h =>
    cases h with
    | nil => exact .pan .nil
    | cons h t =>
      obtain ⟨v, h1, h2⟩ := h.h
      subst h1
      rename_i d _ _
      cases hd : d.done with
      | true =>
        simp only [settleA, hd, Go.settle, t.noGoexit, cond_true]; exact .ret
      | false =>
        simp only [settleA, hd, Go.settle, cond_false]
        exact .pan (.cons ⟨v, by rw [hd], h2⟩ t)

theorem URel.raised {u : UM} {m : FrameMode} {ch : List PE} {L : List PanicEntry} (h : URel E u m) (hc : PRels E ch L) : URel E (raisedA u ch) (Go.raised m L) := by
  cases h with
  | ret => exact .pan hc
  | pan h => exact .pan (hc.append h)

inductive ExRel (E : Blk) : EX → Exit → Prop
  | normal : ExRel E .normal .normal
  | exit (i : Nat) : ExRel E (.exit i) (.exit i)
  | goto (l : Nat) : ExRel E (.goto l) (.goto l)
  | ret : ExRel E .ret .ret
  | panic {l : List PE} {L : List PanicEntry} (h : PRels E l L) : ExRel E (.panic l) (.panic L)

theorem ExRel.mono (hE : Le E E') {u : EX} {m : Exit} (h : ExRel E u m) : ExRel E' u m := by
  cases h with
  | normal => exact .normal
  | exit i => exact .exit i
  | goto l => exact .goto l
  | ret => exact .ret
  | panic h => exact .panic (h.mono hE)

inductive EnRel (E : Blk) : Ending' → Ending → Prop
  | returned {v : AV} {x : Value} (h : Rel E v x) : EnRel E (.returned v) (.returned x)
  | panicked {l : List PE} {L : List PanicEntry} (h : PRels E l L) : EnRel E (.panicked l) (.panicked L)

def Snd (P : Program) (C : Ctx) : Task → Out → Prop
  | .code c a, .ex e a' => ∀ F E w act (Q : Exit → Act → World → Prop), Pre C F E a.s w → ActRel E a act →
      (∀ E' e' act' w', ExRel E' e e' → ActRel E' a' act' → Stp F E a.s E' a'.s w' → Q e' act' w') → c.wp P Q act w
  | .sc rest body a, .ex e a' => ∀ F E w act (Q : Exit → Act → World → Prop), Pre C F E a.s w → ActRel E a act →
      (∀ E' e' act' w', ExRel E' e e' → ActRel E' a' act' → Stp F E a.s E' a'.s w' → Q e' act' w') →
      ∀ (b : Frame) (k : List Item) (cs : List Frame), ∃ e' act' w', Q e' act' w' ∧ Arrives P (lone (b.at act (.code rest :: .inScope body :: k)) cs w) b k cs e' act' w'
  | .lp body a, .ex e a' => ∀ F E w act (Q : Exit → Act → World → Prop), Pre C F E a.s w → ActRel E a act →
      (∀ E' e' act' w', ExRel E' e e' → ActRel E' a' act' → Stp F E a.s E' a'.s w' → Q e' act' w') →
      ∀ (b : Frame) (k : List Item) (cs : List Frame), ∃ e' act' w', Q e' act' w' ∧ Arrives P (lone (b.at act (.code body :: .inLoop body :: k)) cs w) b k cs e' act' w'
  | .ops ops l a, .ex e a' => ∀ F E w act (Q : Exit → Act → World → Prop) i, Pre C F E a.s w → ActRel E a act →
      (∀ E' e' act' w', ExRel E' e e' → ActRel E' a' act' → Stp F E a.s E' a'.s w' → Q e' act' w') → ops.toList.drop i = l →
      wpOps P ops Q (List.range' i l.length) act w
  | .call f args s, .en e s' => ∀ F E w xs (R : Ending → World → Prop), Pre C F E s w → Rels E args xs.toList →
      (∀ E' e' w', EnRel E' e e' → Stp F E s E' s' w' → R e' w') → Calls P f xs w R
  | .leave fn tm ds u s, .en e s' => ∀ F E w tmps dvs um (R : Ending → World → Prop), Pre C F E s w → Slots E tm tmps → DRels E ds dvs → URel E u um →
      (∀ E' e' w', EnRel E' e e' → Stp F E s E' s' w' → R e' w') → Leaves P fn tmps R dvs um w
  | .codeD c a u, .exD e a' u' => ∀ F E w act (c₀ : Frame) (cs : List Frame) um (Q : Exit → Act → List Frame → World → Prop), Pre C F E a.s w → ActRel E a act → URel E u um →
      (∀ E' e' act' um' w', ExRel E' e e' → ActRel E' a' act' → URel E' u' um' → Stp F E a.s E' a'.s w' → Q e' act' ({ c₀ with mode := um' } :: cs) w') →
      c.wpS P Q act ({ c₀ with mode := um } :: cs) w
  | .opsD ops l a u, .exD e a' u' => ∀ F E w act (c₀ : Frame) (cs : List Frame) um (Q : Exit → Act → List Frame → World → Prop) i, Pre C F E a.s w → ActRel E a act → URel E u um →
      (∀ E' e' act' um' w', ExRel E' e e' → ActRel E' a' act' → URel E' u' um' → Stp F E a.s E' a'.s w' → Q e' act' ({ c₀ with mode := um' } :: cs) w') →
      ops.toList.drop i = l → wpOpsS P ops Q (List.range' i l.length) act ({ c₀ with mode := um } :: cs) w
  | _, _ => False

theorem wantedA_at {n : Nat} {ops : Array Oper} {tm : Tr AV} {tmps : Array Value} {o : Oper} {b : Bool}
    (hs : ∀ j want d, o.guard = some (j, want) → (ops[j]?).bind (·.dst) = some d → ∀ av, tm.get d = some av → Rel E av (tmps.getD d undef)) (hn : n ≤ tmps.size) (h : wantedA n ops tm o = .ok b) :
    Region.wanted o (yielded ops tmps) = b ∧ ∀ d, o.dst = some d → d < tmps.size := by
  obtain ⟨h0, h⟩ := cond_ok h
  have hd : ∀ d, o.dst = some d → d < tmps.size := by
    intro d hd
    simp only [dstOk, hd] at h0
    exact Nat.lt_of_lt_of_le (Nat.le_of_ble_eq_true h0) hn
  refine ⟨?_, hd⟩
  unfold Region.wanted
  split at h
  · rename_i hg; rw [hg]; cases h; rfl
  · rename_i j want hg
    rw [hg]
    dsimp only
    split at h
    · rename_i d hj
      have hy : yielded ops tmps j = match tmps[d]? with | some (.bool b) => some b | _ => none := by
        unfold yielded; rw [hj]; rfl
      split at h
      · rename_i q hq
        cases h
        have := hs j want d hg hj _ hq
        rw [Array.getD_eq_getD_getElem?] at this
        cases ht : tmps[d]? with
        | none => rw [ht] at this; cases this
        | some y =>
          rw [ht] at this
          cases this
          rw [hy, ht]
          cases q <;> cases want <;> rfl
      · rename_i q hq
        cases h
        have := hs j want d hg hj _ hq
        rw [Array.getD_eq_getD_getElem?] at this
        cases ht : tmps[d]? with
        | none => rw [hy, ht]; rfl
        | some y =>
          rw [ht] at this
          cases this
          rw [hy, ht]; rfl
      · cases h
    · cases h

theorem wantedA_ok {n : Nat} {ops : Array Oper} {tm : Tr AV} {tmps : Array Value} {o : Oper} {b : Bool} (hs : Slots E tm tmps) (hn : n ≤ tmps.size) (h : wantedA n ops tm o = .ok b) :
    Region.wanted o (yielded ops tmps) = b ∧ ∀ d, o.dst = some d → d < tmps.size := wantedA_at (fun _ _ d _ _ av h => hs d av h) hn h

theorem ActRel.put {a : Ac} {act : Act} {v : AV} {x : Value} {o : Oper} {s : St} (h : ActRel E a act) (hv : Rel E v x) (hd : ∀ d, o.dst = some d → d < act.tmps.size) :
    ActRel E { a with tm := putT a.tm o.dst v, s := s } (act.put o.dst x) := by
  cases hx : o.dst with
  | none => exact ⟨h.n, h.slots, h.df⟩
  | some d => exact ⟨by simpa [Act.put] using h.n, h.slots.put hv (hd d hx), h.df⟩

theorem ActRel.defer {a : Ac} {act : Act} {o : Oper} {d : ADef} {D : Deferred} {s : St} (h : ActRel E a act) (hD : DRel E d D) (hd : ∀ d, o.dst = some d → d < act.tmps.size) :
    ActRel E { a with tm := putT a.tm o.dst .undef, df := d :: a.df, s := s } ({ act with defers := D :: act.defers }.put o.dst undef) := by
  cases hx : o.dst with
  | none => exact ⟨h.n, h.slots, .cons hD h.df⟩
  | some t => exact ⟨by simpa [Act.put] using h.n, h.slots.put .undef (hd t hx), .cons hD h.df⟩

theorem ActRel.st {a : Ac} {act : Act} {s : St} (h : ActRel E a act) : ActRel E { a with s := s } act := ⟨h.n, h.slots, h.df⟩

theorem ops_at {ops : Array Oper} {i : Nat} {o : Oper} {l : List Oper} (h : ops.toList.drop i = o :: l) : ops[i]? = some o ∧ ops.toList.drop (i + 1) = l := by
  constructor
  · have : (ops.toList.drop i)[0]? = some o := by rw [h]; rfl
    rw [List.getElem?_drop] at this
    simpa using this
  · rw [← List.drop_drop, h]; rfl

/-- what the task's answer says at each of its rounds -/
def Sound (P : Program) (C : Ctx) (ih : Task → Res Out) : Prop := ∀ t o, ih t = .ok o → Snd P C t o

theorem exOut_ok {r : Res Out} {k : EX → Ac → Res Out} {o : Out} (h : exOut r k = .ok o) : ∃ e a, r = .ok (.ex e a) ∧ k e a = .ok o := by
  obtain ⟨x, hx, h⟩ := Res.bind_ok h
  cases x with
  | ex e a => exact ⟨e, a, hx, h⟩
  | _ => cases h

theorem exOutD_ok {r : Res Out} {k : EX → Ac → UM → Res Out} {o : Out} (h : exOutD r k = .ok o) : ∃ e a u, r = .ok (.exD e a u) ∧ k e a u = .ok o := by
  obtain ⟨x, hx, h⟩ := Res.bind_ok h
  cases x with
  | exD e a u => exact ⟨e, a, u, hx, h⟩
  | _ => cases h

theorem Snd.isEx {c : Code} {a : Ac} {o : Out} (h : Snd P C (.code c a) o) : ∃ e a', o = .ex e a' := by
  cases o with
  | ex e a => exact ⟨e, a, rfl⟩
  | _ => exact h.elim

end Go.Ab

/-! One round of the evaluator. -/
namespace Go.Ab
variable {P : Program} {C : Ctx} {F : Fr} {E E' E'' : Blk} {w w' w'' : World} {ih : Task → Res Out}

theorem code_ok (hs : Sound P C ih) {c : Code} {a : Ac} {o : Out} (h : ih (.code c a) = .ok o) : ∃ e a', o = .ex e a' ∧ Snd P C (.code c a) (.ex e a') := by
  have := hs _ _ h
  cases o with
  | ex e a' => exact ⟨e, a', rfl, this⟩
  | _ => exact this.elim

theorem seq_ok (hs : Sound P C ih) {x y : Code} {a : Ac} {o : Out}
    (h : (exOut (ih (.code x a)) fun e a => match e with | .normal => ih (.code y a) | e => .ok (.ex e a)) = .ok o) : Snd P C (.code (.seq x y) a) o := by
  obtain ⟨e, a', h1, h2⟩ := exOut_ok h
  have hx := hs _ _ h1
  by_cases he : e = .normal
  · subst he
    obtain ⟨e2, a2, rfl, hy⟩ := code_ok hs h2
    intro F E w act Q hp ha hQ
    refine wp_seq (hx F E w act _ hp ha fun E' e' act' w' he' ha' hst => ?_)
    cases he'
    refine hy F E' w' act' Q (hp.step hst) ha' fun E2 e2 act2 w2 he2 ha2 hst2 => hQ _ _ _ _ he2 ha2 (hst.trans hst2)
  · have h3 : Res.ok (Out.ex e a') = .ok o := by
      cases e <;> first | exact absurd rfl he | exact h2
    cases h3
    intro F E w act Q hp ha hQ
    refine wp_seq (hx F E w act _ hp ha fun E' e' act' w' he' ha' hst => ?_)
    have := hQ _ _ _ _ he' ha' hst
    cases he' <;> first | exact absurd rfl he | exact this

theorem cond_ok' (hs : Sound P C ih) {c : Operand} {x y : Code} {a : Ac} {o : Out}
    (h : ((evalO C a.tm c).bind fun | .bool b => cond b (ih (.code x a)) (ih (.code y a)) | _ => .bad "cond") = .ok o) : Snd P C (.code (.cond c x y) a) o := by
  obtain ⟨v, h1, h2⟩ := Res.bind_ok h
  split at h2
  · rename_i b
    cases b with
    | true =>
      obtain ⟨e, a', rfl, hx⟩ := code_ok hs h2
      intro F E w act Q hp ha hQ
      have hr := evalO_ok (act := act) hp.globs ha.slots h1
      cases hv : act.eval c with
      | bool q =>
        rw [hv] at hr; cases hr
        exact wp_cond_true hv (hx F E w act Q hp ha hQ)
      | _ => rw [hv] at hr; cases hr
    | false =>
      obtain ⟨e, a', rfl, hx⟩ := code_ok hs h2
      intro F E w act Q hp ha hQ
      have hr := evalO_ok (act := act) hp.globs ha.slots h1
      cases hv : act.eval c with
      | bool q =>
        rw [hv] at hr; cases hr
        exact wp_cond_false hv (hx F E w act Q hp ha hQ)
      | _ => rw [hv] at hr; cases hr
  · cases h2

theorem block_ok (hs : Sound P C ih) {id : Nat} {c : Code} {a : Ac} {o : Out}
    (h : (exOut (ih (.code c a)) fun e a => match e with
      | .exit j => cond (Nat.beq j id) (.ok (.ex .normal a)) (.ok (.ex (.exit j) a))
      | e => .ok (.ex e a)) = .ok o) : Snd P C (.code (.block id c) a) o := by
  obtain ⟨e, a', h1, h2⟩ := exOut_ok h
  have hx := hs _ _ h1
  split at h2
  · rename_i j
    cases hj : Nat.beq j id with
    | true =>
      rw [hj] at h2; cases h2
      intro F E w act Q hp ha hQ
      refine wp_block (hx F E w act _ hp ha fun E' e' act' w' he' ha' hst => ?_)
      cases he'
      simp only [Exit.inBlock, Nat.eq_of_beq_eq_true hj, if_true]
      exact hQ _ _ _ _ .normal ha' hst
    | false =>
      rw [hj] at h2; cases h2
      intro F E w act Q hp ha hQ
      refine wp_block (hx F E w act _ hp ha fun E' e' act' w' he' ha' hst => ?_)
      cases he'
      simp only [Exit.inBlock, Nat.ne_of_beq_eq_false hj, if_false]
      exact hQ _ _ _ _ (.exit j) ha' hst
  · rename_i e hne
    cases h2
    intro F E w act Q hp ha hQ
    refine wp_block (hx F E w act _ hp ha fun E' e' act' w' he' ha' hst => ?_)
    have := hQ _ _ _ _ he' ha' hst
    cases he' <;> first | exact absurd rfl (hne _) | exact this

theorem scope_ok (hs : Sound P C ih) {c : Code} {a : Ac} {o : Out} (h : ih (.sc c c a) = .ok o) : Snd P C (.code (.scope c) a) o := by
  have hx := hs _ _ h
  cases o with
  | ex e a' =>
    intro F E w act Q hp ha hQ b k cs
    obtain ⟨e', act', w', q, r⟩ := hx F E w act Q hp ha hQ b k cs
    exact ⟨e', act', w', q, .of_steps (.one step_scope) r⟩
  | _ => exact hx.elim

theorem loop_ok (hs : Sound P C ih) {c : Code} {a : Ac} {o : Out} (h : ih (.lp c a) = .ok o) : Snd P C (.code (.loop c) a) o := by
  have hx := hs _ _ h
  cases o with
  | ex e a' =>
    intro F E w act Q hp ha hQ b k cs
    obtain ⟨e', act', w', q, r⟩ := hx F E w act Q hp ha hQ b k cs
    exact ⟨e', act', w', q, .of_steps (.one step_loop) r⟩
  | _ => exact hx.elim

theorem sc_ok (hs : Sound P C ih) {rest body : Code} {a : Ac} {o : Out}
    (h : (exOut (ih (.code rest a)) fun e a => match e with
      | .goto l => match findLabel body l with
        | some rest => ih (.sc rest body a)
        | none => .ok (.ex (.goto l) a)
      | e => .ok (.ex e a)) = .ok o) : Snd P C (.sc rest body a) o := by
  obtain ⟨e, a1, h1, h2⟩ := exOut_ok h
  have hx := hs _ _ h1
  by_cases he : ∃ l, e = .goto l
  · obtain ⟨l, rfl⟩ := he
    simp only at h2
    split at h2
    · rename_i rest' hf
      have hy := hs _ _ h2
      cases o with
      | ex e a' =>
        intro F E w act Q hp ha hQ b k cs
        obtain ⟨e', act', w', ⟨E1, he', ha', hst⟩, harr⟩ := hx F E w act (fun e' act' w' => ∃ E', ExRel E' (.goto l) e' ∧ ActRel E' a1 act' ∧ Stp F E a.s E' a1.s w') hp ha
          (fun E' e' act' w' h1 h2 h3 => ⟨E', h1, h2, h3⟩) b (.inScope body :: k) cs
        cases he'
        obtain ⟨e2, act2, w2, q, r⟩ := hy F E1 w' act' Q (hp.step hst) ha' (fun E2 e2 act2 w2 he2 ha2 hst2 => hQ _ _ _ _ he2 ha2 (hst.trans hst2)) b k cs
        exact ⟨e2, act2, w2, q, .of_steps (harr _ (by simp [gotoIn, hf])) r⟩
      | _ => exact hy.elim
    · rename_i hf
      cases h2
      intro F E w act Q hp ha hQ b k cs
      obtain ⟨e', act', w', ⟨E1, he', ha', hst⟩, harr⟩ := hx F E w act (fun e' act' w' => ∃ E', ExRel E' (.goto l) e' ∧ ActRel E' a1 act' ∧ Stp F E a.s E' a1.s w') hp ha
        (fun E' e' act' w' h1 h2 h3 => ⟨E', h1, h2, h3⟩) b (.inScope body :: k) cs
      have q := hQ _ _ _ _ he' ha' hst
      cases he'
      exact ⟨.goto l, act', w', q, fun k' hk => harr k' (by simp [gotoIn, hf, hk])⟩
  · have h3 : Res.ok (Out.ex e a1) = .ok o := by
      cases e <;> first | exact absurd ⟨_, rfl⟩ he | exact h2
    cases h3
    intro F E w act Q hp ha hQ b k cs
    obtain ⟨e', act', w', ⟨E1, he', ha', hst⟩, harr⟩ := hx F E w act (fun e' act' w' => ∃ E', ExRel E' e e' ∧ ActRel E' a1 act' ∧ Stp F E a.s E' a1.s w') hp ha
      (fun E' e' act' w' h1 h2 h3 => ⟨E', h1, h2, h3⟩) b (.inScope body :: k) cs
    have q := hQ _ _ _ _ he' ha' hst
    refine ⟨e', act', w', q, ?_⟩
    cases he' with
    | normal => exact Steps.trans harr (.one step_inScope)
    | exit id => exact fun k' hk => harr k' (by simp [exitTo, hk])
    | goto l => exact absurd ⟨l, rfl⟩ he
    | ret => exact harr
    | panic h => exact harr

theorem lp_ok (hs : Sound P C ih) {c : Code} {a : Ac} {o : Out}
    (h : (exOut (ih (.code c a)) fun e a => match e with | .normal => ih (.lp c a) | e => .ok (.ex e a)) = .ok o) : Snd P C (.lp c a) o := by
  obtain ⟨e, a1, h1, h2⟩ := exOut_ok h
  have hx := hs _ _ h1
  by_cases he : e = .normal
  · subst he
    have hy := hs _ _ h2
    cases o with
    | ex e a' =>
      intro F E w act Q hp ha hQ b k cs
      obtain ⟨e', act', w', ⟨E1, he', ha', hst⟩, harr⟩ := hx F E w act (fun e' act' w' => ∃ E', ExRel E' .normal e' ∧ ActRel E' a1 act' ∧ Stp F E a.s E' a1.s w') hp ha
        (fun E' e' act' w' h1 h2 h3 => ⟨E', h1, h2, h3⟩) b (.inLoop c :: k) cs
      cases he'
      obtain ⟨e2, act2, w2, q, r⟩ := hy F E1 w' act' Q (hp.step hst) ha' (fun E2 e2 act2 w2 he2 ha2 hst2 => hQ _ _ _ _ he2 ha2 (hst.trans hst2)) b k cs
      exact ⟨e2, act2, w2, q, .of_steps (Steps.trans harr (.one step_inLoop)) r⟩
    | _ => exact hy.elim
  · have h3 : Res.ok (Out.ex e a1) = .ok o := by
      cases e <;> first | exact absurd rfl he | exact h2
    cases h3
    intro F E w act Q hp ha hQ b k cs
    obtain ⟨e', act', w', ⟨E1, he', ha', hst⟩, harr⟩ := hx F E w act (fun e' act' w' => ∃ E', ExRel E' e e' ∧ ActRel E' a1 act' ∧ Stp F E a.s E' a1.s w') hp ha
      (fun E' e' act' w' h1 h2 h3 => ⟨E', h1, h2, h3⟩) b (.inLoop c :: k) cs
    have q := hQ _ _ _ _ he' ha' hst
    refine ⟨e', act', w', q, ?_⟩
    cases he' with
    | normal => exact absurd rfl he
    | exit id => exact .pass (x := .inLoop c) rfl (fun _ _ => .inl (by simp)) harr
    | goto l => exact .pass (x := .inLoop c) rfl (fun _ _ => .inl (by simp)) harr
    | ret => exact harr
    | panic h => exact harr

theorem range'_cons {α : Type} (i : Nat) (o : α) (l : List α) : List.range' i (o :: l).length = i :: List.range' (i + 1) l.length := by
  simp [List.range'_succ]

theorem ops_ok (hC : CtxOK P C) (hs : Sound P C ih) {ops : Array Oper} {o : Oper} {l : List Oper} {a : Ac} {out : Out}
    (h : ((wantedA a.n ops a.tm o).bind fun w => cond w (
      (opA C a.s (evalO C a.tm) o).bind fun
        | .val v s => ih (.ops ops l { a with tm := putT a.tm o.dst v, s })
        | .defer d s => ih (.ops ops l { a with tm := putT a.tm o.dst .undef, df := d :: a.df, s })
        | .enter f args s => (ih (.call f args s)).bind fun
          | .en (.returned v) s => ih (.ops ops l { a with tm := putT a.tm o.dst v, s })
          | .en (.panicked ch) s => .ok (.ex (.panic ch) { a with s })
          | _ => .bad "out"
        | .panic v => .ok (.ex (.panic [⟨v, false⟩]) a)
        | .recover => .bad "recover: not in a deferred call")
      (ih (.ops ops l { a with tm := putT a.tm o.dst .undef }))) = .ok out) : Snd P C (.ops ops (o :: l) a) out := by
  obtain ⟨wt, hw, h⟩ := Res.bind_ok h
  have isEx : ∀ {a1 : Ac}, Snd P C (.ops ops l a1) out → ∃ e a', out = .ex e a' := by
    intro a1 h
    cases out with
    | ex e a' => exact ⟨e, a', rfl⟩
    | _ => exact h.elim
  cases wt with
  | false =>
    simp only [cond_false] at h
    have hx := hs _ _ h
    obtain ⟨e, a', rfl⟩ := isEx hx
    intro F E w act Q i hp ha hQ hi
    obtain ⟨h1, h2⟩ := ops_at hi
    obtain ⟨w1, w2⟩ := wantedA_ok ha.slots ha.n hw
    rw [range'_cons]
    simp only [wpOps, h1, w1, Bool.false_eq_true, if_false]
    exact hx F E w (act.put o.dst undef) Q (i + 1) hp (ha.put .undef w2) hQ h2
  | true =>
    simp only [cond_true] at h
    obtain ⟨r, hr, h⟩ := Res.bind_ok h
    -- the common beginning
    have start : ∀ {e a'}, out = .ex e a' → (∀ F E w act (Q : Exit → Act → World → Prop) i, Pre C F E a.s w → ActRel E a act →
        (∀ E' e' act' w', ExRel E' e e' → ActRel E' a' act' → Stp F E a.s E' a'.s w' → Q e' act' w') → ops.toList.drop (i + 1) = l →
        (∀ d, o.dst = some d → d < act.tmps.size) →
        OpRel F E a.s w ((execOp act.eval o).run P w) r → o.wp P act w (wpOps P ops Q (List.range' (i + 1) l.length)) Q) → Snd P C (.ops ops (o :: l) a) out := by
      intro e a' he hk
      subst he
      intro F E w act Q i hp ha hQ hi
      obtain ⟨h1, h2⟩ := ops_at hi
      obtain ⟨w1, w2⟩ := wantedA_ok ha.slots ha.n hw
      rw [range'_cons]
      simp only [wpOps, h1, w1, if_true]
      exact .inl (hk F E w act Q i hp ha hQ h2 w2 (opA_ok hC hp.free hp.inv (fun x v hx => evalO_ok hp.globs ha.slots hx) hr))
    cases r with
    | val v s =>
      simp only at h
      have hx := hs _ _ h
      obtain ⟨e, a', rfl⟩ := isEx hx
      refine start rfl fun F E w act Q i hp ha hQ hi hd hop => ?_
      obtain ⟨x, w', E', hrun, hrel, hst⟩ := hop
      have := hx F E' w' (act.put o.dst x) Q (i + 1) (hp.step hst) ((ha.mono (hst.Le hp.free)).put hrel hd)
        (fun E2 e2 act2 w2 he2 ha2 hst2 => hQ _ _ _ _ he2 ha2 (hst.trans hst2)) hi
      rcases hrun with hrun | ⟨hrun, rfl⟩
      · simp only [Oper.wp, hrun, Oper.upon]; exact this
      · simp only [Oper.wp, hrun, Oper.upon]; exact this
    | defer d s =>
      simp only at h
      have hx := hs _ _ h
      obtain ⟨e, a', rfl⟩ := isEx hx
      refine start rfl fun F E w act Q i hp ha hQ hi hd hop => ?_
      obtain ⟨D, rfl, hrun, hD⟩ := hop
      simp only [Oper.wp, hrun, Oper.upon]
      exact hx F E w _ Q (i + 1) hp (ha.defer hD hd) hQ hi
    | enter f args s =>
      simp only at h
      obtain ⟨r, hr1, h⟩ := Res.bind_ok h
      have hc := hs _ _ hr1
      split at h
      · rename_i v s1
        have hx := hs _ _ h
        obtain ⟨e, a', rfl⟩ := isEx hx
        refine start rfl fun F E w act Q i hp ha hQ hi hd hop => ?_
        obtain ⟨xs, rfl, hrun, hxs⟩ := hop
        simp only [Oper.wp, hrun, Oper.upon]
        refine hc F E w xs _ hp hxs fun E' e' w' he' hst => ?_
        cases he' with
        | returned hv =>
          exact hx F E' w' _ Q (i + 1) (hp.step hst) ((ha.mono (hst.Le hp.free)).put hv hd)
            (fun E2 e2 act2 w2 he2 ha2 hst2 => hQ _ _ _ _ he2 ha2 (hst.trans hst2)) hi
      · rename_i ch s1
        cases h
        refine start rfl fun F E w act Q i hp ha hQ hi hd hop => ?_
        obtain ⟨xs, rfl, hrun, hxs⟩ := hop
        simp only [Oper.wp, hrun, Oper.upon]
        refine hc F E w xs _ hp hxs fun E' e' w' he' hst => ?_
        cases he' with
        | panicked hv => exact hQ _ _ _ _ (.panic hv) (ha.mono (hst.Le hp.free)).st hst
      · cases h
    | panic v =>
      cases h
      refine start rfl fun F E w act Q i hp ha hQ hi hd hop => ?_
      obtain ⟨x, hrun, hx⟩ := hop
      simp only [Oper.wp, hrun, Oper.upon]
      exact hQ _ _ _ _ (.panic (.cons ⟨_, rfl, hx⟩ .nil)) ha (.refl hp.free hp.inv)
    | recover => cases h

end Go.Ab

/-! Calls, what is deferred, recover. -/
namespace Go.Ab
variable {P : Program} {C : Ctx} {F : Fr} {E E' E'' : Blk} {w w' w'' : World} {ih : Task → Res Out}

theorem argsT_get : ∀ (l : List AV) (i : Nat) (T : Tr AV) (t : Nat) (av : AV), (argsT l i T).get t = some av → (∃ j, t = i + j ∧ l[j]? = some av) ∨ T.get t = some av
  | [], _, _, _, _, h => .inr h
  | v :: l, i, T, t, av, h => by
    rcases argsT_get l (i + 1) _ t av h with ⟨j, h1, h2⟩ | h
    · exact .inl ⟨j + 1, by omega, by simpa using h2⟩
    · rcases Tr.get_put _ _ _ _ _ _ h with ⟨h1, h2⟩ | ⟨_, h2⟩
      · exact .inl ⟨0, by omega, by simpa using h2⟩
      · exact .inr h2

theorem Rels.at {l : List AV} {xs : List Value} (h : Rels E l xs) (j : Nat) {a : AV} (ha : l[j]? = some a) : ∃ x, xs[j]? = some x ∧ Rel E a x := by
  refine h.lget j ?_
  rw [lget_eq]; exact ha

theorem enter_act {fn : Func} {args : List AV} {xs : Array Value} {s : St} (h : Rels E args xs.toList) :
    ActRel E { n := fn.ntmps, tm := argsT args 0 .e, df := [], s } { tmps := xs ++ Array.replicate (fn.ntmps - xs.size) undef, defers := [] } where
  n := by simp; omega
  slots := fun t av ht => by
    rcases argsT_get _ _ _ _ _ ht with ⟨j, h1, h2⟩ | h1
    · obtain ⟨x, hx, hr⟩ := h.at j h2
      have ht : t = j := by omega
      subst ht
      have hx' : xs[t]? = some x := by simpa using hx
      have hlt : t < xs.size := (Array.getElem?_eq_some_iff.1 hx').1
      rw [Array.getD_eq_getD_getElem?, Array.getElem?_append_left hlt, hx']
      exact hr
    · cases h1
  df := .nil

theorem resultsA_ok {hC : CtxOK P C} {tm : Tr AV} {tmps : Array Value} {s : St} (hs : Slots E tm tmps) (hi : Inv F E s.heap w) : ∀ {l : List ResultVar} {vs : List AV}, resultsA C tm s l = .ok vs →
    ∃ ys, (l.mapM (fun | .tmp t => pure (tmps.getD t undef) | .cell a t => do loadVar t (← asAddr (tmps.getD a undef)) : ResultVar → Sem Value)).run P w = .ok ys w ∧ Rels E vs ys
  | [], vs, h => by cases h; exact ⟨[], rfl, .nil⟩
  | .tmp t :: l, vs, h => by
    obtain ⟨v, h1, h2⟩ := Res.bind_ok h
    obtain ⟨us, h3, h4⟩ := Res.bind_ok h2
    cases h4
    obtain ⟨ys, g1, g2⟩ := resultsA_ok (hC := hC) hs hi h3
    exact ⟨_, by simp only [List.mapM_cons, Sem.run_bind, Sem.run_pure, Result.andThen_ok, g1], .cons (hs _ _ (Res.ofOpt_ok h1)) g2⟩
  | .cell a t :: l, vs, h => by
    obtain ⟨v, h1, h2⟩ := Res.bind_ok h
    have hr := hs _ _ (Res.ofOpt_ok h1)
    split at h2
    · rename_i b o
      obtain ⟨u, h3, h4⟩ := Res.bind_ok h2
      obtain ⟨us, h5, h6⟩ := Res.bind_ok h4
      cases h6
      obtain ⟨ys, g1, g2⟩ := resultsA_ok (hC := hC) hs hi h5
      obtain ⟨c, κ, hb, x, k1, k2⟩ := loadV_ok hC hi h3
      generalize hx : tmps.getD a undef = va at hr
      cases hr with | ptr _ hb' =>
      rw [hb] at hb'; cases hb'
      refine ⟨x :: ys, ?_, .cons k2 g2⟩
      have k0 : (asAddr (tmps.getD a undef)).run P w = .ok ⟨c, o, none⟩ w := by rw [hx]; rfl
      simp only [List.mapM_cons, Sem.run_bind, Sem.run_pure, Result.andThen_ok, k0, k1, g1]
    · cases h2

theorem resultA_ok (hC : CtxOK P C) {fn : Func} {tm : Tr AV} {tmps : Array Value} {s : St} {v : AV} (hs : Slots E tm tmps) (hi : Inv F E s.heap w) (h : resultA C fn tm s = .ok v) :
    ∃ x, (results fn tmps).run P w = .ok x w ∧ Rel E v x := by
  obtain ⟨vs, h1, h2⟩ := Res.bind_ok h
  obtain ⟨ys, g1, g2⟩ := resultsA_ok (hC := hC) hs hi h1
  have hm : (fn.results.mapM (fun | .tmp t => pure (tmps.getD t undef) | .cell a t => do loadVar t (← asAddr (tmps.getD a undef)) : ResultVar → Sem Value)).run P w = .ok ys.toArray w := by
    rw [Array.mapM_eq_mapM_toList, Sem.run_map, g1]; rfl
  refine ⟨if h : ys.toArray.size = 1 then ys.toArray[0] else .tuple ys.toArray, ?_, ?_⟩
  · simp only [results, Sem.run_bind, Sem.run_pure]
    exact congrArg (fun r : Result (Array Value) => r.andThen fun a w' => Result.ok (if h : a.size = 1 then a[0] else Value.tuple a) w') hm
  · split at h2
    · cases h2
      cases g2 with | cons hr t =>
      cases t
      simpa using hr
    · rename_i hne
      cases h2
      have : ys.toArray.size ≠ 1 := by
        intro h
        have hl := g2.length
        simp at h
        rw [h] at hl
        match vs, hl with
        | [v], _ => exact hne v rfl
      rw [dif_neg this]
      exact .tuple g2

theorem hook_ok (hH : ∀ f h, C.hook f = some h → ∀ args s p, h args s = .ok p → Snd P C (.call f args s) (.en (.returned p.1) p.2)) (hC : CtxOK P C) (hs : Sound P C ih) {f : Nat} {args : List AV} {s : St} {o : Out}
    (h : (match C.hook f with
    | some h => (h args s).bind fun p => Res.ok (Out.en (.returned p.1) p.2)
    | none => match C.func f with
      | none => .bad "call"
      | some fn => match fn.body with
        | none => .bad "call: no body"
        | some c => exOut (ih (.code c { n := fn.ntmps, tm := argsT args 0 .e, df := [], s })) fun e a => match e with
          | .normal => ih (.leave fn a.tm a.df .returning a.s)
          | .ret => ih (.leave fn a.tm a.df .returning a.s)
          | .panic ch => ih (.leave fn a.tm a.df (.panicking ch) a.s)
          | _ => .bad "call: exit") = .ok o) : Snd P C (.call f args s) o := by
  split at h
  · rename_i hk hh
    obtain ⟨p, h1, h2⟩ := Res.bind_ok h
    cases h2
    exact hH f hk hh args s p h1
  · split at h
    · cases h
    · rename_i fn hf
      split at h
      · cases h
      · rename_i c hb
        obtain ⟨e, a1, h1, h2⟩ := exOut_ok h
        have hx := hs _ _ h1
        have go : ∀ u, (∀ E e', ExRel E e e' → match e' with | .normal => URel E u .returning | .ret => URel E u .returning | .panic ch => URel E u (.panicking ch) | _ => False) →
            ih (.leave fn a1.tm a1.df u a1.s) = .ok o → Snd P C (.call f args s) o := by
          intro u hu hl
          have hy := hs _ _ hl
          cases o with
          | en e s' =>
            intro F E w xs R hp hxs hR
            refine calls_of_wp_defers (hC.func _ _ hf) hb (hx F E w _ _ hp (enter_act hxs) fun E1 e1 act1 w1 he1 ha1 hst1 => ?_)
            have hu1 := hu E1 e1 he1
            have hl := fun um hum => hy F E1 w1 act1.tmps act1.defers um R (hp.step hst1) ha1.slots ha1.df hum fun E2 e2 w2 he2 hst2 => hR _ _ _ he2 (hst1.trans hst2)
            cases he1 with
            | normal => exact hl _ hu1
            | ret => exact hl _ hu1
            | panic h => exact hl _ hu1
            | exit i => exact hu1.elim
            | goto l => exact hu1.elim
          | _ => exact hy.elim
        cases e with
        | normal => exact go _ (fun E e' he => by cases he; exact .ret) h2
        | ret => exact go _ (fun E e' he => by cases he; exact .ret) h2
        | panic ch => exact go _ (fun E e' he => by cases he with | panic h => exact .pan h) h2
        | exit i => cases h2
        | goto l => cases h2

theorem DRels.nil_inv {l : List Deferred} (h : DRels E [] l) : l = [] := by cases h; rfl

theorem leave_ok (hC : CtxOK P C) (hs : Sound P C ih) {fn : Func} {tm : Tr AV} {ds : List ADef} {u : UM} {s : St} {o : Out} (h : evStep C ih (.leave fn tm ds u s) = .ok o) :
    Snd P C (.leave fn tm ds u s) o := by
  cases ds with
  | nil =>
    cases u with
    | returning =>
      simp only [evStep] at h
      obtain ⟨v, h1, h2⟩ := Res.bind_ok h
      cases h2
      intro F E w tmps dvs um R hp hsl hd hu hR
      cases hd; cases hu
      obtain ⟨x, g1, g2⟩ := resultA_ok hC hsl hp.inv h1
      exact ⟨x, g1, hR E _ w (.returned g2) (.refl hp.free hp.inv)⟩
    | panicking ch =>
      simp only [evStep] at h
      cases h
      intro F E w tmps dvs um R hp hsl hd hu hR
      cases hd
      cases hu with | pan hu =>
      exact hR E _ w (.panicked hu) (.refl hp.free hp.inv)
  | cons d ds =>
    simp only [evStep] at h
    obtain ⟨r, hr, h⟩ := Res.bind_ok h
    split at h
    · rename_i f args s1
      split at h
      · cases h
      · rename_i g hg
        split at h
        · cases h
        · rename_i c hb
          obtain ⟨e, a1, u1, h1, h2⟩ := exOutD_ok h
          have hx := hs _ _ h1
          split at h2
          · cases h2
          · rename_i hdf
            -- what holds behind the deferred call, and how the rest goes on
            have go : ∀ (un : UM), (∀ E e' (act : Act) (w : World), ExRel E e e' → Slots E a1.tm act.tmps → (∃ F, Inv F E a1.s.heap w) →
                  match e' with
                  | .normal => ∃ v, (results g act.tmps).run P w = .ok v w
                  | .ret => ∃ v, (results g act.tmps).run P w = .ok v w
                  | .panic _ => True
                  | _ => False) →
                (∀ E e' um, ExRel E e e' → URel E u1 um → URel E un (match e' with | .panic L => Go.raised um L | _ => Go.settle um)) →
                ih (.leave fn tm ds un a1.s) = .ok o → Snd P C (.leave fn tm (d :: ds) u s) o := by
              intro un hres hun hl
              have hy := hs _ _ hl
              cases o with
              | en e2 s' =>
                intro F E w tmps dvs um R hp hsl hd hu hR
                cases hd with | cons hd hds =>
                obtain ⟨cap, dargs, rfl, hcap, hargs⟩ := hd.h
                obtain ⟨xs, rfl, hrun, hxs⟩ := invokeA_ok hC hp.free hp.inv hcap hargs hr
                refine leaves_cons hu.ne hrun (callsD_of_wpS (hC.func _ _ hg) hb fun c₀ cs hc => ?_)
                have hcc : c₀ :: cs = { c₀ with mode := um } :: cs := by subst hc; rfl
                rw [hcc]
                refine hx F E w _ c₀ cs um _ hp (enter_act hxs) hu fun E1 e1 act1 um1 w1 he1 ha1 hu1 hst1 => ?_
                have hr1 := hres E1 e1 act1 w1 he1 ha1.slots ⟨F, hst1.inv⟩
                have hle := hst1.Le hp.free
                have hd1 : act1.defers = [] := by
                  have := ha1.df; rw [hdf] at this; exact this.nil_inv
                have hnext := hy F E1 w1 tmps _ _ R (hp.step hst1) (hsl.mono hle) (hds.mono hle) (hun E1 e1 um1 he1 hu1) fun E2 e2 w2 he2 hst2 => hR _ _ _ he2 (hst1.trans hst2)
                cases he1 with
                | normal => obtain ⟨v, hv⟩ := hr1; exact ⟨hd1, um1, rfl, v, hv, hnext⟩
                | ret => obtain ⟨v, hv⟩ := hr1; exact ⟨hd1, um1, rfl, v, hv, hnext⟩
                | panic h => exact ⟨hd1, um1, rfl, hnext⟩
                | exit i => exact hr1.elim
                | goto l => exact hr1.elim
              | _ => exact hy.elim
            split at h2
            · obtain ⟨v, hv, h3⟩ := Res.bind_ok h2
              refine go _ (fun E e' act w he hsl hi => ?_) (fun E e' um he hu => ?_) h3
              · cases he
                obtain ⟨F, hi⟩ := hi
                obtain ⟨x, g1, _⟩ := resultA_ok hC hsl hi hv
                exact ⟨x, g1⟩
              · cases he; exact hu.settle
            · obtain ⟨v, hv, h3⟩ := Res.bind_ok h2
              refine go _ (fun E e' act w he hsl hi => ?_) (fun E e' um he hu => ?_) h3
              · cases he
                obtain ⟨F, hi⟩ := hi
                obtain ⟨x, g1, _⟩ := resultA_ok hC hsl hi hv
                exact ⟨x, g1⟩
              · cases he; exact hu.settle
            · refine go _ (fun E e' act w he hsl hi => ?_) (fun E e' um he hu => ?_) h2
              · cases he; exact trivial
              · cases he with | panic h => exact hu.raised h
            · cases h2
    · cases h

end Go.Ab

/-! Deferred bodies; all rounds together. -/
namespace Go.Ab
variable {P : Program} {C : Ctx} {F : Fr} {E E' E'' : Blk} {w w' w'' : World} {ih : Task → Res Out}

def inBlockS (id : Nat) (Q : Exit → Act → List Frame → World → Prop) : Exit → Act → List Frame → World → Prop
  | .exit id', a, cs, w => if id' = id then Q .normal a cs w else Q (.exit id') a cs w
  | e, a, cs, w => Q e a cs w

theorem wpS_block {Q : Exit → Act → List Frame → World → Prop} {a : Act} {cs : List Frame} {id : Nat} {c : Code} (h : c.wpS P (inBlockS id Q) a cs w) : (Code.block id c).wpS P Q a cs w := by
  intro b k hb hr
  obtain ⟨e, a₁, cs₁, w₁, hq, harr⟩ := h b (.inBlock id :: k) hb hr
  cases e with
  | normal => exact ⟨.normal, a₁, cs₁, w₁, hq, .head step_block (Steps.trans harr (.one step_inBlock))⟩
  | exit id' =>
    by_cases hid : id' = id
    · simp only [inBlockS, hid, if_true] at hq
      exact ⟨.normal, a₁, cs₁, w₁, hq, .head step_block (harr k (by simp [exitTo, hid]))⟩
    · simp only [inBlockS, hid, if_false] at hq
      refine ⟨.exit id', a₁, cs₁, w₁, hq, fun k' hk => .head step_block (harr k' ?_)⟩
      have : (id == id') = false := by simp; exact fun h => hid h.symm
      simp [exitTo, this, hk]
  | goto l => exact ⟨_, a₁, cs₁, w₁, hq, fun k' hk => .head step_block (harr k' (by simp [gotoIn, hk]))⟩
  | ret => exact ⟨_, a₁, cs₁, w₁, hq, .of_steps (.one step_block) harr⟩
  | panic ch => exact ⟨_, a₁, cs₁, w₁, hq, .of_steps (.one step_block) harr⟩
  | outgrown => exact ⟨_, a₁, cs₁, w₁, hq, .of_steps (b := b) (k := k) (cs := cs₁) (e := .outgrown) (.one step_block) harr⟩

theorem codeD_is (hs : Sound P C ih) {c : Code} {a : Ac} {u : UM} {o : Out} (h : ih (.codeD c a u) = .ok o) : ∃ e a' u', o = .exD e a' u' ∧ Snd P C (.codeD c a u) (.exD e a' u') := by
  have := hs _ _ h
  cases o with
  | exD e a' u' => exact ⟨e, a', u', rfl, this⟩
  | _ => exact this.elim

theorem seqD_ok (hs : Sound P C ih) {x y : Code} {a : Ac} {u : UM} {o : Out}
    (h : (exOutD (ih (.codeD x a u)) fun e a u => match e with | .normal => ih (.codeD y a u) | e => .ok (.exD e a u)) = .ok o) : Snd P C (.codeD (.seq x y) a u) o := by
  obtain ⟨e, a', u', h1, h2⟩ := exOutD_ok h
  have hx := hs _ _ h1
  by_cases he : e = .normal
  · subst he
    obtain ⟨e2, a2, u2, rfl, hy⟩ := codeD_is hs h2
    intro F E w act c₀ cs um Q hp ha hu hQ
    refine wpS_seq (hx F E w act c₀ cs um _ hp ha hu fun E' e' act' um' w' he' ha' hu' hst => ?_)
    cases he'
    refine hy F E' w' act' c₀ cs um' Q (hp.step hst) ha' hu' fun E2 e2 act2 um2 w2 he2 ha2 hu2 hst2 => hQ _ _ _ _ _ he2 ha2 hu2 (hst.trans hst2)
  · have h3 : Res.ok (Out.exD e a' u') = .ok o := by
      cases e <;> first | exact absurd rfl he | exact h2
    cases h3
    intro F E w act c₀ cs um Q hp ha hu hQ
    refine wpS_seq (hx F E w act c₀ cs um _ hp ha hu fun E' e' act' um' w' he' ha' hu' hst => ?_)
    have := hQ _ _ _ _ _ he' ha' hu' hst
    cases he' <;> first | exact absurd rfl he | exact this

theorem condD_ok (hs : Sound P C ih) {c : Operand} {x y : Code} {a : Ac} {u : UM} {o : Out}
    (h : ((evalO C a.tm c).bind fun | .bool b => cond b (ih (.codeD x a u)) (ih (.codeD y a u)) | _ => .bad "cond") = .ok o) : Snd P C (.codeD (.cond c x y) a u) o := by
  obtain ⟨v, h1, h2⟩ := Res.bind_ok h
  split at h2
  · rename_i b
    cases b with
    | true =>
      obtain ⟨e, a', u', rfl, hx⟩ := codeD_is hs h2
      intro F E w act c₀ cs um Q hp ha hu hQ
      have hr := evalO_ok (act := act) hp.globs ha.slots h1
      cases hv : act.eval c with
      | bool q =>
        rw [hv] at hr; cases hr
        exact wpS_cond hv (hx F E w act c₀ cs um Q hp ha hu hQ)
      | _ => rw [hv] at hr; cases hr
    | false =>
      obtain ⟨e, a', u', rfl, hx⟩ := codeD_is hs h2
      intro F E w act c₀ cs um Q hp ha hu hQ
      have hr := evalO_ok (act := act) hp.globs ha.slots h1
      cases hv : act.eval c with
      | bool q =>
        rw [hv] at hr; cases hr
        exact wpS_cond hv (hx F E w act c₀ cs um Q hp ha hu hQ)
      | _ => rw [hv] at hr; cases hr
  · cases h2

theorem blockD_ok (hs : Sound P C ih) {id : Nat} {c : Code} {a : Ac} {u : UM} {o : Out}
    (h : (exOutD (ih (.codeD c a u)) fun e a u => match e with
      | .exit j => cond (Nat.beq j id) (.ok (.exD .normal a u)) (.ok (.exD (.exit j) a u))
      | e => .ok (.exD e a u)) = .ok o) : Snd P C (.codeD (.block id c) a u) o := by
  obtain ⟨e, a', u', h1, h2⟩ := exOutD_ok h
  have hx := hs _ _ h1
  by_cases he : ∃ j, e = .exit j
  · obtain ⟨j, rfl⟩ := he
    cases hj : Nat.beq j id with
    | true =>
      simp only [hj, cond_true] at h2; cases h2
      intro F E w act c₀ cs um Q hp ha hu hQ
      refine wpS_block (hx F E w act c₀ cs um _ hp ha hu fun E' e' act' um' w' he' ha' hu' hst => ?_)
      cases he'
      simp only [inBlockS, Nat.eq_of_beq_eq_true hj, if_true]
      exact hQ _ _ _ _ _ .normal ha' hu' hst
    | false =>
      simp only [hj, cond_false] at h2; cases h2
      intro F E w act c₀ cs um Q hp ha hu hQ
      refine wpS_block (hx F E w act c₀ cs um _ hp ha hu fun E' e' act' um' w' he' ha' hu' hst => ?_)
      cases he'
      simp only [inBlockS, Nat.ne_of_beq_eq_false hj, if_false]
      exact hQ _ _ _ _ _ (.exit j) ha' hu' hst
  · have h3 : Res.ok (Out.exD e a' u') = .ok o := by
      cases e <;> first | exact absurd ⟨_, rfl⟩ he | exact h2
    cases h3
    intro F E w act c₀ cs um Q hp ha hu hQ
    refine wpS_block (hx F E w act c₀ cs um _ hp ha hu fun E' e' act' um' w' he' ha' hu' hst => ?_)
    have := hQ _ _ _ _ _ he' ha' hu' hst
    cases he' <;> first | exact absurd ⟨_, rfl⟩ he | exact this

theorem plainD_ok (hs : Sound P C ih) {c : Code} {a : Ac} {u : UM} {o : Out} (h : (exOut (ih (.code c a)) fun e a => .ok (.exD e a u)) = .ok o) : Snd P C (.codeD c a u) o := by
  obtain ⟨e, a', h1, h2⟩ := exOut_ok h
  have hx := hs _ _ h1
  cases h2
  intro F E w act c₀ cs um Q hp ha hu hQ
  exact wpS_of_wp (hx F E w act _ hp ha fun E' e' act' w' he' ha' hst => hQ _ _ _ _ _ he' ha' (hu.mono (hst.Le hp.free)) hst)

theorem opsD_ok (hC : CtxOK P C) (hs : Sound P C ih) {ops : Array Oper} {o : Oper} {l : List Oper} {a : Ac} {u : UM} {out : Out}
    (h : ((wantedA a.n ops a.tm o).bind fun w => cond w (
      (opA C a.s (evalO C a.tm) o).bind fun
        | .val v s => ih (.opsD ops l { a with tm := putT a.tm o.dst v, s } u)
        | .defer d s => ih (.opsD ops l { a with tm := putT a.tm o.dst .undef, df := d :: a.df, s } u)
        | .enter f args s => (ih (.call f args s)).bind fun
          | .en (.returned v) s => ih (.opsD ops l { a with tm := putT a.tm o.dst v, s } u)
          | .en (.panicked ch) s => .ok (.exD (.panic ch) { a with s } u)
          | _ => .bad "out"
        | .panic v => .ok (.exD (.panic [⟨v, false⟩]) a u)
        | .recover => let r := recoverA u; ih (.opsD ops l { a with tm := putT a.tm o.dst r.1 } r.2))
      (ih (.opsD ops l { a with tm := putT a.tm o.dst .undef } u))) = .ok out) : Snd P C (.opsD ops (o :: l) a u) out := by
  obtain ⟨wt, hw, h⟩ := Res.bind_ok h
  have isEx : ∀ {a1 : Ac} {u1 : UM}, Snd P C (.opsD ops l a1 u1) out → ∃ e a' u', out = .exD e a' u' := by
    intro a1 u1 h
    cases out with
    | exD e a' u' => exact ⟨e, a', u', rfl⟩
    | _ => exact h.elim
  cases wt with
  | false =>
    simp only [cond_false] at h
    have hx := hs _ _ h
    obtain ⟨e, a', u', rfl⟩ := isEx hx
    intro F E w act c₀ cs um Q i hp ha hu hQ hi
    obtain ⟨h1, h2⟩ := ops_at hi
    obtain ⟨w1, w2⟩ := wantedA_ok ha.slots ha.n hw
    rw [range'_cons]
    simp only [wpOpsS, h1, w1, Bool.false_eq_true, if_false]
    exact hx F E w (act.put o.dst undef) c₀ cs um Q (i + 1) hp (ha.put .undef w2) hu hQ h2
  | true =>
    simp only [cond_true] at h
    obtain ⟨r, hr, h⟩ := Res.bind_ok h
    have start : ∀ {e a' u'}, out = .exD e a' u' → (∀ F E w act (c₀ : Frame) (cs : List Frame) um (Q : Exit → Act → List Frame → World → Prop) i, Pre C F E a.s w → ActRel E a act → URel E u um →
        (∀ E' e' act' um' w', ExRel E' e e' → ActRel E' a' act' → URel E' u' um' → Stp F E a.s E' a'.s w' → Q e' act' ({ c₀ with mode := um' } :: cs) w') → ops.toList.drop (i + 1) = l →
        (∀ d, o.dst = some d → d < act.tmps.size) →
        OpRel F E a.s w ((execOp act.eval o).run P w) r →
        match (execOp act.eval o).run P w with
        | .ok .recover w' =>
          match recoverD ({ c₀ with mode := um } :: cs) with
          | some (v, cs') => wpOpsS P ops Q (List.range' (i + 1) l.length) (act.put o.dst v) cs' w'
          | none => wpOpsS P ops Q (List.range' (i + 1) l.length) (act.put o.dst .nilIface) ({ c₀ with mode := um } :: cs) w'
        | r => o.upon P act (fun a' w' => wpOpsS P ops Q (List.range' (i + 1) l.length) a' ({ c₀ with mode := um } :: cs) w') (fun e a' w' => Q e a' ({ c₀ with mode := um } :: cs) w') r) →
        Snd P C (.opsD ops (o :: l) a u) out := by
      intro e a' u' he hk
      subst he
      intro F E w act c₀ cs um Q i hp ha hu hQ hi
      obtain ⟨h1, h2⟩ := ops_at hi
      obtain ⟨w1, w2⟩ := wantedA_ok ha.slots ha.n hw
      rw [range'_cons]
      simp only [wpOpsS, h1, w1, if_true]
      exact hk F E w act c₀ cs um Q i hp ha hu hQ h2 w2 (opA_ok hC hp.free hp.inv (fun x v hx => evalO_ok hp.globs ha.slots hx) hr)
    cases r with
    | val v s =>
      simp only at h
      have hx := hs _ _ h
      obtain ⟨e, a', u', rfl⟩ := isEx hx
      refine start rfl fun F E w act c₀ cs um Q i hp ha hu hQ hi hd hop => ?_
      obtain ⟨x, w', E', hrun, hrel, hst⟩ := hop
      have := hx F E' w' (act.put o.dst x) c₀ cs um Q (i + 1) (hp.step hst) ((ha.mono (hst.Le hp.free)).put hrel hd) (hu.mono (hst.Le hp.free))
        (fun E2 e2 act2 um2 w2 he2 ha2 hu2 hst2 => hQ _ _ _ _ _ he2 ha2 hu2 (hst.trans hst2)) hi
      rcases hrun with hrun | ⟨hrun, rfl⟩
      · simp only [hrun, Oper.upon]; exact this
      · simp only [hrun, Oper.upon]; exact this
    | defer d s =>
      simp only at h
      have hx := hs _ _ h
      obtain ⟨e, a', u', rfl⟩ := isEx hx
      refine start rfl fun F E w act c₀ cs um Q i hp ha hu hQ hi hd hop => ?_
      obtain ⟨D, rfl, hrun, hD⟩ := hop
      simp only [hrun, Oper.upon]
      exact hx F E w _ c₀ cs um Q (i + 1) hp (ha.defer hD hd) hu hQ hi
    | enter f args s =>
      simp only at h
      obtain ⟨r, hr1, h⟩ := Res.bind_ok h
      have hc := hs _ _ hr1
      split at h
      · rename_i v s1
        have hx := hs _ _ h
        obtain ⟨e, a', u', rfl⟩ := isEx hx
        refine start rfl fun F E w act c₀ cs um Q i hp ha hu hQ hi hd hop => ?_
        obtain ⟨xs, rfl, hrun, hxs⟩ := hop
        simp only [hrun, Oper.upon]
        refine hc F E w xs _ hp hxs fun E' e' w' he' hst => ?_
        cases he' with
        | returned hv =>
          exact hx F E' w' _ c₀ cs um Q (i + 1) (hp.step hst) ((ha.mono (hst.Le hp.free)).put hv hd) (hu.mono (hst.Le hp.free))
            (fun E2 e2 act2 um2 w2 he2 ha2 hu2 hst2 => hQ _ _ _ _ _ he2 ha2 hu2 (hst.trans hst2)) hi
      · rename_i ch s1
        cases h
        refine start rfl fun F E w act c₀ cs um Q i hp ha hu hQ hi hd hop => ?_
        obtain ⟨xs, rfl, hrun, hxs⟩ := hop
        simp only [hrun, Oper.upon]
        refine hc F E w xs _ hp hxs fun E' e' w' he' hst => ?_
        cases he' with
        | panicked hv => exact hQ _ _ _ _ _ (.panic hv) (ha.mono (hst.Le hp.free)).st (hu.mono (hst.Le hp.free)) hst
      · cases h
    | panic v =>
      cases h
      refine start rfl fun F E w act c₀ cs um Q i hp ha hu hQ hi hd hop => ?_
      obtain ⟨x, hrun, hx⟩ := hop
      simp only [hrun, Oper.upon]
      exact hQ _ _ _ _ _ (.panic (.cons ⟨_, rfl, hx⟩ .nil)) ha hu (.refl hp.free hp.inv)
    | recover =>
      simp only at h
      have hx := hs _ _ h
      obtain ⟨e, a', u', rfl⟩ := isEx hx
      refine start rfl fun F E w act c₀ cs um Q i hp ha hu hQ hi hd hop => ?_
      have hrun : (execOp act.eval o).run P w = .ok .recover w := hop
      simp only [hrun]
      have none' : recoverD ({ c₀ with mode := um } :: cs) = none → recoverA u = (.nilIface, u) → (match recoverD ({ c₀ with mode := um } :: cs) with
          | some (v, cs') => wpOpsS P ops Q (List.range' (i + 1) l.length) (act.put o.dst v) cs' w
          | none => wpOpsS P ops Q (List.range' (i + 1) l.length) (act.put o.dst .nilIface) ({ c₀ with mode := um } :: cs) w) := by
        intro h1 h2
        rw [h1]
        rw [h2] at hx
        exact hx F E w _ c₀ cs um Q (i + 1) hp (ha.put .nilIface hd) hu hQ hi
      cases hu with
      | ret => exact none' rfl rfl
      | pan hu =>
        cases hu with
        | nil => exact none' rfl rfl
        | cons hd' ht =>
          rename_i p _ l' L' _ hx
          obtain ⟨v, hv1, hv2⟩ := hd'.h
          subst hv1
          cases hpd : p.done with
          | true =>
            rw [hpd] at none'
            refine none' ?_ ?_
            · simp only [recoverD]
            · simp only [recoverA, hpd, cond_true]
          | false =>
            have h2 : recoverA (.panicking (p :: l')) = (p.v, .panicking ({ p with done := true } :: l')) := by simp only [recoverA, hpd, cond_false]
            rw [h2] at hx
            have h1 : recoverD ({ c₀ with mode := .panicking ({ v, recovered := false, goexit := false } :: L') } :: cs) =
                some (v, { c₀ with mode := .panicking ({ v, recovered := true } :: L') } :: cs) := by simp only [recoverD]
            rw [h1]
            exact hx F E w _ c₀ cs _ Q (i + 1) hp (ha.put hv2 hd) (.pan (.cons ⟨v, rfl, hv2⟩ ht)) hQ hi

/-- the regions that draw their order -/
def Draws (P : Program) (C : Ctx) : Prop := ∀ ih, Sound P C ih → ∀ id ops a o, drawRegion C (fun f args s => ih (.call f args s)) ops a = .ok o → Snd P C (.code (.region id ops true) a) o

def Hooks (P : Program) (C : Ctx) : Prop := ∀ f h, C.hook f = some h → ∀ args s p, h args s = .ok p → Snd P C (.call f args s) (.en (.returned p.1) p.2)

theorem evStep_ok (hC : CtxOK P C) (hD : Draws P C) (hH : Hooks P C) (hs : Sound P C ih) : Sound P C (evStep C ih) := by
  intro t o h
  cases t with
  | code c a =>
    cases c with
    | skip => cases h; exact fun F E w act Q hp ha hQ => wp_skip (hQ _ _ _ _ .normal ha (.refl hp.free hp.inv))
    | label l => cases h; exact fun F E w act Q hp ha hQ => wp_label (hQ _ _ _ _ .normal ha (.refl hp.free hp.inv))
    | ret => cases h; exact fun F E w act Q hp ha hQ => wp_ret (hQ _ _ _ _ .ret ha (.refl hp.free hp.inv))
    | exit id => cases h; exact fun F E w act Q hp ha hQ => wp_exit (hQ _ _ _ _ (.exit id) ha (.refl hp.free hp.inv))
    | goto l => cases h; exact fun F E w act Q hp ha hQ => wp_goto (hQ _ _ _ _ (.goto l) ha (.refl hp.free hp.inv))
    | seq x y => exact seq_ok hs h
    | cond c x y => exact cond_ok' hs h
    | block id c => exact block_ok hs h
    | scope c => exact scope_ok hs h
    | loop c => exact loop_ok hs h
    | region id ops draw =>
      cases draw with
      | true => exact hD ih hs id ops a o h
      | false =>
        have h : ih (.ops ops ops.toList a) = .ok o := h
        have hx := hs _ _ h
        cases o with
        | ex e a' =>
          intro F E w act Q hp ha hQ
          refine wp_region ?_
          have := hx F E w act Q 0 hp ha hQ rfl
          rw [List.range_eq_range']
          simpa using this
        | _ => exact hx.elim
    | rangeFunc => cases h
    | refuse => cases h
  | sc rest body a => exact sc_ok hs h
  | lp body a => exact lp_ok hs h
  | ops ops l a =>
    cases l with
    | nil =>
      cases h
      intro F E w act Q i hp ha hQ hi
      exact hQ _ _ _ _ .normal ha (.refl hp.free hp.inv)
    | cons o' l => exact ops_ok hC hs h
  | call f args s => exact hook_ok hH hC hs h
  | leave fn tm ds u s => exact leave_ok hC hs h
  | codeD c a u =>
    cases c with
    | seq x y => exact seqD_ok hs h
    | cond c x y => exact condD_ok hs h
    | block id c => exact blockD_ok hs h
    | region id ops draw =>
      cases draw with
      | true => exact plainD_ok hs h
      | false =>
        have h : ih (.opsD ops ops.toList a u) = .ok o := h
        have hx := hs _ _ h
        cases o with
        | exD e a' u' =>
          intro F E w act c₀ cs um Q hp ha hu hQ
          refine wpS_region ?_
          have := hx F E w act c₀ cs um Q 0 hp ha hu hQ rfl
          rw [List.range_eq_range']
          simpa using this
        | _ => exact hx.elim
    | _ => exact plainD_ok hs h
  | opsD ops l a u =>
    cases l with
    | nil =>
      cases h
      intro F E w act c₀ cs um Q i hp ha hu hQ hi
      exact hQ _ _ _ _ _ .normal ha hu (.refl hp.free hp.inv)
    | cons o' l => exact opsD_ok hC hs h

theorem ev_ok (hC : CtxOK P C) (hD : Draws P C) (hH : Hooks P C) : ∀ n, Sound P C (ev C n)
  | 0 => fun _ _ h => by cases h
  | n + 1 => evStep_ok hC hD hH (ev_ok hC hD hH n)

end Go.Ab

/-! Regions that draw their order: what is needed of values and of single operations. -/
namespace Go.Ab
variable {P : Program} {C : Ctx} {F : Fr} {E E' : Blk} {w : World}

mutual
theorem AV.same_ok : ∀ {u v : AV}, AV.same u v = true → u = v
  | .bool a, .bool b, h => by simp [AV.same] at h; rw [h]
  | .int j a, .int k b, h => by simp [AV.same] at h; rw [h.1, h.2]
  | .str a, .str b, h => by simp [AV.same] at h; rw [h]
  | .pnil, .pnil, _ => rfl
  | .ptr a b, .ptr c d, h => by simp [AV.same] at h; rw [h.1, h.2]
  | .snil, .snil, _ => rfl
  | .slice a b c d, .slice a' b' c' d', h => by simp [AV.same] at h; rw [h.1.1.1, h.1.1.2, h.1.2, h.2]
  | .slicev a b c d, .slicev a' b' c' d', h => by simp [AV.same] at h; rw [h.1.1.1, h.1.1.2, h.1.2, h.2]
  | .map a, .map b, h => by simp [AV.same] at h; rw [h]
  | .chan a, .chan b, h => by simp [AV.same] at h; rw [h]
  | .func f a b, .func g c d, h => by
    simp only [AV.same, Bool.and_eq_true, decide_eq_true_eq] at h
    rw [h.1.1, AV.sames_ok h.1.2, AV.sames_ok h.2]
  | .nilFunc, .nilFunc, _ => rfl
  | .iface t v, .iface u w, h => by
    simp only [AV.same, Bool.and_eq_true, Nat.beq_eq] at h
    rw [h.1, AV.same_ok h.2]
  | .nilIface, .nilIface, _ => rfl
  | .agg a, .agg b, h => by simp only [AV.same] at h; rw [AV.sames_ok h]
  | .tuple a, .tuple b, h => by simp only [AV.same] at h; rw [AV.sames_ok h]
  | .tslice a b, .tslice c d, h => by simp [AV.same] at h; rw [h.1, h.2]
  | .tptr a b, .tptr c d, h => by simp [AV.same] at h; rw [h.1, h.2]
theorem AV.sames_ok : ∀ {u v : List AV}, AV.sames u v = true → u = v
  | [], [], _ => rfl
  | a :: x, b :: y, h => by
    simp only [AV.sames, Bool.and_eq_true] at h
    rw [AV.same_ok h.1, AV.sames_ok h.2]
end

theorem blt_lt {a b : Nat} (h : Nat.blt a b = true) : a < b := Nat.le_of_ble_eq_true h

mutual
theorem Rel.under {n : Nat} (hE : ∀ b p, b < n → E b = some p → E' b = some p) : ∀ {v : AV} {x : Value}, Rel E v x → AV.under n v = true → Rel E' v x
  | _, _, .bool b, _ => .bool b
  | _, _, .int k n, _ => .int k n
  | _, _, .str l, _ => .str l
  | _, _, .pnil, _ => .pnil
  | _, _, .ptr o hb, h => .ptr o (hE _ _ (blt_lt h) hb)
  | _, _, .snil, _ => .snil
  | _, _, .slice o n k hb, h => .slice o n k (hE _ _ (blt_lt h) hb)
  | _, _, .slicev o n k hb hn, h => .slicev o n k (hE _ _ (blt_lt h) hb) hn
  | _, _, .slice0 a c, _ => .slice0 a c
  | _, _, .mapn, _ => .mapn
  | _, _, .map hb, h => .map (hE _ _ (blt_lt h) hb)
  | _, _, .chann, _ => .chann
  | _, _, .chan hb, h => .chan (hE _ _ (blt_lt h) hb)
  | _, _, .func f a b, h => by
    simp only [AV.under, Bool.and_eq_true] at h
    exact .func f (Rels.unders hE a h.1) (Rels.unders hE b h.2)
  | _, _, .nilFunc, _ => .nilFunc
  | _, _, .iface t hv, h => .iface t (Rel.under hE hv h)
  | _, _, .nilIface, _ => .nilIface
  | _, _, .agg hv, h => .agg (Rels.unders hE hv h)
  | _, _, .tuple hv, h => .tuple (Rels.unders hE hv h)
  | _, _, .tslice n hb, h => .tslice n (hE _ _ (blt_lt h) hb)
  | _, _, .tptr o hb, h => .tptr o (hE _ _ (blt_lt h) hb)
theorem Rels.unders {n : Nat} (hE : ∀ b p, b < n → E b = some p → E' b = some p) : ∀ {l : List AV} {xs : List Value}, Rels E l xs → AV.unders n l = true → Rels E' l xs
  | _, _, .nil, _ => .nil
  | _, _, .cons hv t, h => by
    simp only [AV.unders, Bool.and_eq_true] at h
    exact .cons (Rel.under hE hv h.1) (Rels.unders hE t h.2)
end

theorem ORel.lacks {n κ : Nat} (hE : ∀ b p, b < n → E b = some p → E' b = some p) {a : AO} {o : Obj} (ha : a.lacks n = true) (h : ORel E κ a o) : ORel E' κ a o := by
  cases a with
  | cells cs e f m =>
    obtain ⟨ys, zs, lo, hi, h1, h2, h3⟩ := h
    exact ⟨ys, zs, lo, hi, h1, Rels.unders hE h2 ha, h3⟩
  | map es c =>
    obtain ⟨xs, h1, h2⟩ := h
    cases es with
    | nil => cases hx : xs.toList with
      | nil => exact ⟨xs, h1, by rw [hx]; exact .nil⟩
      | cons a l => rw [hx] at h2; cases h2
    | cons a l => cases ha
  | chan n cl s r => exact h
  | siter s p => exact h
  | tab cs =>
    obtain ⟨ps, ys, zs, e, fr, h1, h2, h3⟩ := h
    exact ⟨ps, ys, zs, e, fr, h1, h2, Rels.unders hE h3 ha⟩

theorem Rel.at {n m : Nat} {v v' : AV} {x : Value} (hv : v.at n m = .ok v') (h : Rel E v x) (hE : ∀ p, E n = some p → E' m = some p) : Rel E' v' x := by
  unfold AV.at at hv
  split at hv
  · cases h with | ptr _ hb =>
    cases hc : Nat.beq _ n with
    | false => rw [hc] at hv; cases hv
    | true => rw [hc] at hv; cases hv; rw [beq_true hc] at hb; exact .ptr _ (hE _ hb)
  · cases h with | slice _ _ _ hb =>
    cases hc : Nat.beq _ n with
    | false => rw [hc] at hv; cases hv
    | true => rw [hc] at hv; cases hv; rw [beq_true hc] at hb; exact .slice _ _ _ (hE _ hb)
  · cases h with | slicev _ _ _ hb hn =>
    cases hc : Nat.beq _ n with
    | false => rw [hc] at hv; cases hv
    | true => rw [hc] at hv; cases hv; rw [beq_true hc] at hb; exact .slicev _ _ _ (hE _ hb) hn
  · cases h with | map hb =>
    cases hc : Nat.beq _ n with
    | false => rw [hc] at hv; cases hv
    | true => rw [hc] at hv; cases hv; rw [beq_true hc] at hb; exact .map (hE _ hb)
  · cases h with | chan hb =>
    cases hc : Nat.beq _ n with
    | false => rw [hc] at hv; cases hv
    | true => rw [hc] at hv; cases hv; rw [beq_true hc] at hb; exact .chan (hE _ hb)
  · cases hv

/-! single operations -/
theorem mapO_congr {ρ ρ' : Env} : ∀ {l : List Operand}, (∀ x ∈ l, ρ x = ρ' x) → mapO ρ l = mapO ρ' l
  | [], _ => rfl
  | x :: l, h => by
    simp only [mapO, h x (by simp), mapO_congr (l := l) fun y hy => h y (by simp [hy])]

theorem mapP_congr {ρ ρ' : Env} : ∀ {l : List (Nat × Operand)}, (∀ x ∈ l.map (·.2), ρ x = ρ' x) → mapP ρ l = mapP ρ' l
  | [], _ => rfl
  | x :: l, h => by
    simp only [mapP, h x.2 (by simp), mapP_congr (l := l) fun y hy => h y (by simp only [List.map_cons, List.mem_cons]; exact .inr hy)]

theorem optO_congr {ρ ρ' : Env} {o : Option Operand} (h : ∀ x, o = some x → ρ x = ρ' x) : optO ρ o = optO ρ' o := by
  cases o with
  | none => rfl
  | some x => simp only [optO, h x rfl]

theorem opA_congr {ρ ρ' : Env} {s : St} (o : Oper) (h : ∀ x ∈ o.op.operands, ρ x = ρ' x) : opA C s ρ o = opA C s ρ' o := by
  obtain ⟨dst, op, type, pos, after, guard⟩ := o
  have calls : ∀ c : Call, (∀ x ∈ c.operands, ρ x = ρ' x) → mapO ρ c.args.toList = mapO ρ' c.args.toList ∧ (∀ f, c.callee = .value f → ρ f = ρ' f) ∧ (∀ r m, c.callee = .invoke r m → ρ r = ρ' r) := fun c hc =>
    ⟨mapO_congr fun x hx => hc x (by simp only [Call.operands, Array.mem_append]; exact .inr (by simpa using hx)), fun f hf => hc f (by simp [Call.operands, hf]), fun r m hr => hc r (by simp [Call.operands, hr])⟩
  cases op <;> simp only [Op.operands] at h <;> simp only [opA]
  case build t ps => rw [mapP_congr fun x hx => h x (by simpa using hx)]
  case buildSlice t n ps => rw [mapP_congr fun x hx => h x (by simpa using hx)]
  case makeFunc fn a b =>
    rw [mapO_congr (l := a.toList) fun x hx => h x (by simp only [Array.mem_append]; exact .inl (by simpa using hx)),
      mapO_congr (l := b.toList) fun x hx => h x (by simp only [Array.mem_append]; exact .inr (by simpa using hx))]
  case call c =>
    obtain ⟨h1, h2, h3⟩ := calls c h
    unfold callA
    rw [h1]
    cases hc : c.callee with
    | value f => simp only [h2 f hc]
    | invoke r m => simp only [h3 r m hc]
    | builtin b => rfl
  case defer c =>
    obtain ⟨h1, h2, h3⟩ := calls c h
    unfold deferA
    rw [h1]
    cases hc : c.callee with
    | value f => simp only [h2 f hc]
    | invoke r m => rfl
    | builtin b => rfl
  case slice t x lo hi mx =>
    rw [h x (by simp), optO_congr (o := lo) fun y hy => h y (by simp [hy]), optO_congr (o := hi) fun y hy => h y (by simp [hy]), optO_congr (o := mx) fun y hy => h y (by simp [hy])]
  all_goals first
    | rfl
    | (rename_i a; rw [h a (by simp)]; done)
    | (simp_all; done)

theorem ok1_inv {x : Res AV} {s : St} {r : OR} (h : ok1 x s = .ok r) : ∃ v, x = .ok v ∧ r = .val v s := by
  obtain ⟨v, h1, h2⟩ := Res.bind_ok h
  cases h2
  exact ⟨v, h1, rfl⟩

theorem opA_pure {s : St} {ρ : Env} {o : Oper} {r : OR} (hc : cls C o = 0) (h : opA C s ρ o = .ok r) : ∃ v, r = .val v s ∧ ∀ s', opA C s' ρ o = .ok (.val v s') := by
  obtain ⟨dst, op, type, pos, after, guard⟩ := o
  have one : ∀ {x : Res AV}, ok1 x s = .ok r → ∃ v, r = .val v s ∧ ∀ s', ok1 x s' = .ok (.val v s') := fun hx => by
    obtain ⟨v, h1, h2⟩ := ok1_inv hx
    exact ⟨v, h2, fun s' => by rw [h1]; rfl⟩
  cases op <;> simp only [cls] at hc <;> simp only [opA] at h ⊢ <;> try (cases hc; done)
  case move x => exact one h
  case assign x => exact one h
  case pick c a b =>
    obtain ⟨v, h1, h2⟩ := Res.bind_ok h
    rw [h1]
    split at h2
    · rename_i q
      cases q
      · exact one h2
      · exact one h2
    · cases h2
  case build t ps =>
    obtain ⟨v, h1, h2⟩ := Res.bind_ok h
    rw [h1]
    exact one h2
  case nilCheck x =>
    obtain ⟨v, h1, h2⟩ := Res.bind_ok h
    rw [h1]
    split at h2 <;> first
      | (cases h2; done)
      | (cases h2; exact ⟨_, rfl, fun _ => rfl⟩)
  case unOp op t x =>
    obtain ⟨v, h1, h2⟩ := Res.bind_ok h
    rw [h1]
    split at h2 <;> first
      | (cases h2; done)
      | (cases h2; exact ⟨_, rfl, fun _ => rfl⟩)
  case makeInterface t x =>
    obtain ⟨v, h1, h2⟩ := Res.bind_ok h
    obtain ⟨d, h3, h4⟩ := Res.bind_ok h2
    split at h4
    · cases h4
    · rename_i hni
      cases h4
      refine ⟨_, rfl, fun s' => ?_⟩
      simp only [h1, h3, Res.bind]
  case makeFunc fn a b =>
    obtain ⟨v, h1, h2⟩ := Res.bind_ok h
    obtain ⟨d, h3, h4⟩ := Res.bind_ok h2
    cases h4
    exact ⟨_, rfl, fun s' => by rw [h1, h3]; rfl⟩
  case fieldAddr t x f =>
    obtain ⟨v, h1, h2⟩ := Res.bind_ok h
    rw [h1]
    exact one h2
  case field t x f =>
    obtain ⟨v, h1, h2⟩ := Res.bind_ok h
    rw [h1]
    exact one h2
  case indexAddr t x i =>
    obtain ⟨v, h1, h2⟩ := Res.bind_ok h
    obtain ⟨d, h3, h4⟩ := Res.bind_ok h2
    rw [h1, h3]
    exact one h4
  case index t x i =>
    obtain ⟨v, h1, h2⟩ := Res.bind_ok h
    obtain ⟨d, h3, h4⟩ := Res.bind_ok h2
    rw [h1, h3]
    exact one h4
  case typeAssert x t0 t ok =>
    obtain ⟨v, h1, h2⟩ := Res.bind_ok h
    obtain ⟨d, h3, h4⟩ := Res.bind_ok h2
    split at h4
    · cases h4
    · rename_i hni
      split at h4
      · rename_i u y
        cases hu : Nat.beq u t with
        | true => rw [hu] at h4; cases h4; exact ⟨_, rfl, fun s' => by simp only [h1, h3, hu, Res.bind, cond_true]⟩
        | false =>
          rw [hu] at h4
          cases ok with
          | false => cases h4
          | true =>
            obtain ⟨z, h5, h6⟩ := Res.bind_ok h4
            cases h6
            exact ⟨_, rfl, fun s' => by simp only [h1, h3, h5, hu, Res.bind, cond_true, cond_false]⟩
      · cases ok with
        | false => cases h4
        | true =>
          obtain ⟨z, h5, h6⟩ := Res.bind_ok h4
          cases h6
          exact ⟨_, rfl, fun s' => by simp only [h1, h3, h5, Res.bind, cond_true]⟩
      · cases h4
  case extract x i =>
    obtain ⟨v, h1, h2⟩ := Res.bind_ok h
    rw [h1]
    split at h2
    · exact one h2
    · cases h2
  case call c =>
    exfalso
    obtain ⟨callee, args, argTypes⟩ := c
    cases callee with
    | builtin b => cases b <;> cases hc
    | _ => cases hc
  case convert a b x =>
    exfalso
    split at hc <;> cases hc

theorem opA_quiet {s s' : St} {ρ : Env} {o : Oper} {v : AV} (hc : cls C o = 3) (h : opA C s ρ o = .ok (.val v s')) : s' = s := by
  obtain ⟨dst, op, type, pos, after, guard⟩ := o
  have one : ∀ {x : Res AV}, ok1 x s = .ok (.val v s') → s' = s := fun hx => by
    obtain ⟨v, h1, h2⟩ := ok1_inv hx
    cases h2; rfl
  cases op <;> simp only [cls] at hc <;> simp only [opA] at h <;> try (cases hc; done)
  case load t x =>
    obtain ⟨v, h1, h2⟩ := Res.bind_ok h
    split at h2
    · exact one h2
    · exact one h2
    · cases h2
  case lookup t x k ok =>
    obtain ⟨v, h1, h2⟩ := Res.bind_ok h
    obtain ⟨v, h3, h4⟩ := Res.bind_ok h2
    exact one h4
  case binOp op t x y z =>
    obtain ⟨v, h1, h2⟩ := Res.bind_ok h
    obtain ⟨v, h3, h4⟩ := Res.bind_ok h2
    exact one h4
  case slice t x lo hi mx =>
    obtain ⟨v, h1, h2⟩ := Res.bind_ok h
    obtain ⟨v, h3, h4⟩ := Res.bind_ok h2
    obtain ⟨v, h5, h6⟩ := Res.bind_ok h4
    obtain ⟨v, h7, h8⟩ := Res.bind_ok h6
    exact one h8
  case convert a b x =>
    obtain ⟨y, h1, h2⟩ := Res.bind_ok h
    obtain ⟨p, h3, h4⟩ := ok2_ok h2
    cases h4
    split at hc
    · cases hc
    rename_i hns
    unfold convA at h3
    obtain ⟨ds, h5, h6⟩ := Res.bind_ok h3
    obtain ⟨dd, h7, h8⟩ := Res.bind_ok h6
    have h7 := Res.ofOpt_ok h7
    split at h8
    · cases h8; rfl
    · cases h8; rfl
    · exact (hns _ h7).elim
    · exact (hns _ h7).elim
    · exact (hns _ h7).elim
    · split at h8
      · obtain ⟨d, _, h9⟩ := Res.bind_ok h8
        split at h9
        · split at h9
          · cases h9
          · obtain ⟨l, _, h10⟩ := Res.bind_ok h9
            cases h10; rfl
        · cases h9
      · cases h8
    · split at h8
      · cases h8; rfl
      · cases h8
    · split at h8
      · obtain ⟨z, _, h9⟩ := Res.bind_ok h8
        cases hz : Nat.beq z 0 with
        | true => rw [hz] at h9; cases h9
        | false =>
          rw [hz] at h9
          simp only [cond_false] at h9
          split at h9
          · obtain ⟨_, h10⟩ := cond_ok h9
            cases h10; rfl
          · cases h9
      · cases h8
    · split at h8
      · cases h8; rfl
      · cases h8
    · split at h8
      · obtain ⟨z, _, h9⟩ := Res.bind_ok h8
        cases hz : Nat.beq z 0 with
        | true => rw [hz] at h9; cases h9
        | false =>
          rw [hz] at h9
          simp only [cond_false] at h9
          split at h9
          · obtain ⟨_, h10⟩ := cond_ok h9
            cases h10; rfl
          · cases h9
      · cases h8
    · cases h8
  case call c =>
    obtain ⟨callee, args, argTypes⟩ := c
    cases callee with
    | builtin b =>
      unfold callA at h
      obtain ⟨as, h1, h2⟩ := Res.bind_ok h
      simp only at h2
      unfold builtinA at h2
      split at h2
      · cases hc
      · exact one h2
      · exact one h2
      · cases hc
      · cases hc
      · exact one h2
      · exact one h2
      · cases hc
      · cases hc
      · cases hc
      · cases h2
    | _ => cases hc

end Go.Ab

/-! Regions that draw their order: what is asked of the text. -/
namespace Go.Ab
noncomputable section

theorem row_spec (acc : Array Nat) (j : Nat) : ∀ (l : List Edge) (s : Nat),
    (l.foldl (fun s e => if Region.binds .any e then s ||| 2 ^ e.on ||| acc.getD e.on 0 else s) s).testBit j = true →
    s.testBit j = true ∨ ∃ e ∈ l, Region.binds .any e = true ∧ (e.on = j ∨ (acc.getD e.on 0).testBit j = true)
  | [], s, h => .inl h
  | e :: l, s, h => by
    simp only [List.foldl_cons] at h
    rcases row_spec acc j l _ h with h | ⟨e', h1, h2⟩
    · cases hb : Region.binds .any e with
      | false => rw [hb] at h; exact .inl h
      | true =>
        simp only [hb, if_true, Nat.testBit_or, Bool.or_eq_true, Nat.testBit_two_pow, decide_eq_true_eq] at h
        rcases h with (h | h) | h
        · exact .inl h
        · exact .inr ⟨e, by simp, hb, .inl h⟩
        · exact .inr ⟨e, by simp, hb, .inr h⟩
    · exact .inr ⟨e', by simp [h1], h2⟩

def BefOk (l : List Oper) (acc : Array Nat) : Prop := ∀ i j, (acc.getD i 0).testBit j = true → ∃ o, l[i]? = some o ∧ ∃ e ∈ o.after, Region.binds .any e = true ∧
  (e.on = j ∨ (acc.getD e.on 0).testBit j = true)

theorem getD_bit {acc : Array Nat} {i j : Nat} (h : (acc.getD i 0).testBit j = true) : i < acc.size := by
  rcases Nat.lt_or_ge i acc.size with h1 | h1
  · exact h1
  · rw [Array.getD_eq_getD_getElem?, Array.getElem?_eq_none h1] at h
    simp at h

theorem getD_push {acc : Array Nat} {i v : Nat} (h : i < acc.size) : (acc.push v).getD i 0 = acc.getD i 0 := by
  simp only [Array.getD_eq_getD_getElem?, Array.getElem?_push_lt h]
  simp [h]

theorem before_go (ops : List Oper) : ∀ (l pre : List Oper) (acc : Array Nat), ops = pre ++ l → acc.size = pre.length → BefOk ops acc →
    BefOk ops (l.foldl (fun acc o => acc.push (o.after.foldl (fun s e => if Region.binds .any e then s ||| 2 ^ e.on ||| acc.getD e.on 0 else s) 0)) acc)
  | [], pre, acc, _, _, h => h
  | o :: l, pre, acc, hp, hs, h => by
    simp only [List.foldl_cons]
    refine before_go ops l (pre ++ [o]) _ (by rw [hp]; simp) (by simp [hs]) ?_
    intro i j hij
    have hi := getD_bit hij
    simp only [Array.size_push] at hi
    have keep : ∀ {e : Edge}, (e.on = j ∨ (acc.getD e.on 0).testBit j = true) → ∀ v, (e.on = j ∨ ((acc.push v).getD e.on 0).testBit j = true) := by
      intro e he v
      rcases he with he | he
      · exact .inl he
      · exact .inr (by rw [getD_push (getD_bit he)]; exact he)
    by_cases hlt : i < acc.size
    · rw [getD_push hlt] at hij
      obtain ⟨o', h1, e, h2, h3, h4⟩ := h i j hij
      exact ⟨o', h1, e, h2, h3, keep h4 _⟩
    · have hi : i = acc.size := by omega
      subst hi
      refine ⟨o, by rw [hp, hs]; simp, ?_⟩
      rw [Array.getD_eq_getD_getElem?, Array.getElem?_push_size, Option.getD_some, ← Array.foldl_toList] at hij
      rcases row_spec acc j _ _ hij with h0 | ⟨e, h1, h2, h3⟩
      · simp at h0
      · exact ⟨e, by simpa using h1, h2, keep h3 _⟩

theorem before_spec (ops : Array Oper) : BefOk ops.toList (Region.before ops) := by
  have := before_go ops.toList ops.toList [] #[] rfl rfl (by
    intro i j h
    exact absurd (getD_bit h) (by simp))
  unfold Region.before
  rw [← Array.foldl_toList]
  exact this

theorem lexOk_spec {ops : Array Oper} (h : lexOk ops = true) {i : Nat} {o : Oper} (ho : ops[i]? = some o) {e : Edge} (he : e ∈ o.after) (hb : Region.binds .any e = true) : e.on < i := by
  unfold lexOk at h
  rw [List.all_eq_true] at h
  have := h (o, i) (by rw [List.mem_zipIdx_iff_getElem?]; simpa using ho)
  simp only [Array.all_eq_true_iff_forall_mem] at this
  have := this e he
  rw [hb] at this
  simp only [Bool.not_true, Bool.false_or] at this
  exact blt_lt this

theorem noSel_spec {ops : Array Oper} (h : noSel ops = true) {i : Nat} {o : Oper} (ho : ops[i]? = some o) (cs : Array SelectCase) (b : Bool) : o.op ≠ .select cs b := by
  intro he
  unfold noSel at h
  rw [List.all_eq_true] at h
  have := h o (by
    have := Array.mem_of_getElem? ho
    simpa using this)
  rw [he] at this
  cases this

theorem pairOk_spec {ops : Array Oper} {b : Array Nat} {j : Nat} {oj : Oper} : ∀ (l : List Oper) (n : Nat), pairOk ops b j oj n l = true → ∀ k oi, l[k]? = some oi → n + k < j →
    aft b (n + k) j = true ∨ oi.apart ops oj = true
  | [], n, h, k, oi, hk, hlt => by simp at hk
  | o :: l, n, h, k, oi, hk, hlt => by
    unfold pairOk at h
    have hn : Nat.blt n j = true := Nat.ble_eq_true_of_le (by omega)
    rw [hn] at h
    simp only [cond_true, Bool.and_eq_true, Bool.or_eq_true] at h
    cases k with
    | zero =>
      simp only [List.getElem?_cons_zero, Option.some.injEq] at hk
      subst hk
      exact h.1
    | succ k =>
      have := pairOk_spec l (n + 1) h.2 k oi (by simpa using hk) (by omega)
      rw [show n + (k + 1) = n + 1 + k by omega]
      exact this

theorem pairsOk_spec {ops : Array Oper} {b : Array Nat} : ∀ (l : List Oper) (n : Nat), pairsOk ops b n l = true → ∀ k oj, l[k]? = some oj → pairOk ops b (n + k) oj 0 ops.toList = true
  | [], n, h, k, oj, hk => by simp at hk
  | o :: l, n, h, k, oj, hk => by
    unfold pairsOk at h
    simp only [Bool.and_eq_true] at h
    cases k with
    | zero =>
      simp only [List.getElem?_cons_zero, Option.some.injEq] at hk
      subst hk
      exact h.1
    | succ k =>
      have := pairsOk_spec l (n + 1) h.2 k oj (by simpa using hk)
      rw [show n + (k + 1) = n + 1 + k by omega]
      exact this

/-- what 'drawOk' asks -/
structure Text (ops : Array Oper) : Prop where
  lex : ∀ {i : Nat} {o : Oper}, ops[i]? = some o → ∀ {e : Edge}, e ∈ o.after → Region.binds .any e = true → e.on < i
  pair : ∀ {i j : Nat} {oi oj : Oper}, i < j → ops[i]? = some oi → ops[j]? = some oj → aft (Region.before ops) i j = true ∨ oi.apart ops oj = true
  sel : ∀ {i : Nat} {o : Oper}, ops[i]? = some o → ∀ (cs : Array SelectCase) (b : Bool), o.op ≠ .select cs b

theorem drawOk_text {ops : Array Oper} (h : drawOk ops = true) : Text ops := by
  unfold drawOk at h
  simp only [Bool.and_eq_true] at h
  refine ⟨fun ho _ he hb => lexOk_spec h.1.1 ho he hb, fun {i j oi oj} hlt hi hj => ?_, fun ho cs b => noSel_spec h.2 ho cs b⟩
  have h1 := pairsOk_spec _ 0 h.1.2 j oj (by simpa using hj)
  have := pairOk_spec _ 0 h1 i oi (by simpa using hi) (by omega)
  simpa using this

/-- i must be carried out ahead of j -/
def Bef (ops : Array Oper) (i j : Nat) : Prop := aft (Region.before ops) i j = true

theorem Bef.ofEdge {ops : Array Oper} {i j : Nat} (h : Bef ops j i) : ∃ o, ops[i]? = some o ∧ ∃ e ∈ o.after, Region.binds .any e = true ∧ (e.on = j ∨ Bef ops j e.on) := by
  obtain ⟨o, h1, h2⟩ := before_spec ops i j h
  exact ⟨o, by simpa using h1, h2⟩

theorem Bef.lt {ops : Array Oper} (ht : Text ops) : ∀ {i j : Nat}, Bef ops j i → j < i := by
  intro i
  induction i using Nat.strongRecOn with
  | _ i ih =>
    intro j h
    obtain ⟨o, h1, e, h2, h3, h4⟩ := h.ofEdge
    have := ht.lex h1 h2 h3
    rcases h4 with rfl | h4
    · exact this
    · have := ih e.on this h4; omega

/-- a set that goes down -/
def Down (ops : Array Oper) (D : Nat → Prop) : Prop := ∀ i o, ops[i]? = some o → D i → ∀ e ∈ o.after, Region.binds .any e = true → D e.on

theorem Down.bef {ops : Array Oper} (ht : Text ops) {D : Nat → Prop} (hD : Down ops D) : ∀ {i j : Nat}, Bef ops j i → D i → D j := by
  intro i
  induction i using Nat.strongRecOn with
  | _ i ih =>
    intro j h hi
    obtain ⟨o, h1, e, h2, h3, h4⟩ := h.ofEdge
    have he := hD i o h1 hi e h2 h3
    rcases h4 with rfl | h4
    · exact he
    · exact ih e.on (ht.lex h1 h2 h3) h4 he

theorem Down.ready {ops : Array Oper} (ht : Text ops) {D : Nat → Prop} (hD : Down ops D) {i : Nat} (hr : ∀ o, ops[i]? = some o → ∀ e ∈ o.after, Region.binds .any e = true → D e.on) {j : Nat} (h : Bef ops j i) : D j := by
  obtain ⟨o, h1, e, h2, h3, h4⟩ := h.ofEdge
  have he := hr o h1 e h2 h3
  rcases h4 with rfl | h4
  · exact he
  · exact hD.bef ht h4 he

end
end Go.Ab

/-! Regions that draw their order: memory seen from one operation, and put together again. -/
namespace Go.Ab
noncomputable section
variable {P : Program} {C : Ctx} {F : Fr} {E E' : Blk} {w w' : World}

structure InvG (F : Fr) (E : Blk) (G : Nat → AO → Prop) (w : World) : Prop where
  tape : w.tape = F.w0.tape
  os : w.os = F.w0.os
  out : w.output = F.w0.output
  size : F.w0.heap.size ≤ w.heap.size
  frame : ∀ k, k < F.w0.heap.size → ¬ F.S k → w.heap[k]? = F.w0.heap[k]?
  obj : ∀ b ao, G b ao → ∃ c κ o, E b = some (c, κ) ∧ w.heap[c]? = some o ∧ ORel E κ ao o
  own : ∀ b ao c κ, G b ao → ao.rw = true → E b = some (c, κ) → F.w0.heap.size ≤ c ∨ F.S c
  inj : ∀ b b' ao ao' c κ κ', G b ao → G b' ao' → E b = some (c, κ) → E b' = some (c, κ') → b = b'

theorem InvG.of {H : Tr AO} (h : Inv F E H w) : InvG F E (fun b ao => H.get b = some ao) w := ⟨h.tape, h.os, h.out, h.size, h.frame, h.obj, h.own, h.inj⟩

theorem InvG.to {G : Nat → AO → Prop} {H : Tr AO} (h : InvG F E G w) (hs : ∀ b ao, H.get b = some ao → G b ao) : Inv F E H w where
  tape := h.tape
  os := h.os
  out := h.out
  size := h.size
  frame := h.frame
  obj := fun b ao hb => h.obj b ao (hs _ _ hb)
  own := fun b ao c κ hb => h.own b ao c κ (hs _ _ hb)
  inj := fun b b' ao ao' c κ κ' hb hb' => h.inj b b' ao ao' c κ κ' (hs _ _ hb) (hs _ _ hb')

theorem InvG.sub {G G' : Nat → AO → Prop} (h : InvG F E G w) (hs : ∀ b ao, G' b ao → G b ao) : InvG F E G' w where
  tape := h.tape
  os := h.os
  out := h.out
  size := h.size
  frame := h.frame
  obj := fun b ao hb => h.obj b ao (hs _ _ hb)
  own := fun b ao c κ hb => h.own b ao c κ (hs _ _ hb)
  inj := fun b b' ao ao' c κ κ' hb hb' => h.inj b b' ao ao' c κ κ' (hs _ _ hb) (hs _ _ hb')

/-- the frame of one operation that works on H -/
def loc (w : World) (E : Blk) (H : Tr AO) : Fr := ⟨w, fun c => ∃ b ao κ, H.get b = some ao ∧ ao.rw = true ∧ E b = some (c, κ)⟩

theorem InvG.loc {G : Nat → AO → Prop} {H : Tr AO} (h : InvG F E G w) (hs : ∀ b ao, H.get b = some ao → G b ao) : Inv (Ab.loc w E H) E H w where
  tape := rfl
  os := rfl
  out := rfl
  size := Nat.le_refl _
  frame := fun _ _ _ => rfl
  obj := fun b ao hb => h.obj b ao (hs _ _ hb)
  own := fun b ao _ κ hb hrw hE => .inr ⟨b, ao, κ, hb, hrw, hE⟩
  inj := fun b b' ao ao' c κ κ' hb hb' => h.inj b b' ao ao' c κ κ' (hs _ _ hb) (hs _ _ hb')

theorem InvG.lt {G : Nat → AO → Prop} (h : InvG F E G w) {n b : Nat} {ao : AO} (hf : Free E n) (hb : G b ao) : b < n := by
  rcases Nat.lt_or_ge b n with h1 | h1
  · exact h1
  · obtain ⟨c, κ, o, h2, _⟩ := h.obj b ao hb
    rw [hf b h1] at h2; cases h2

theorem size_of_get {c : Nat} {o : Obj} (h : w.heap[c]? = some o) : c < w.heap.size := (Array.getElem?_eq_some_iff.1 h).1

/-- blocks that the operation does not work on stay -/
theorem InvG.keep {G : Nat → AO → Prop} {s s' : St} (h : InvG F E G w) (hs : ∀ b ao, s.heap.get b = some ao → G b ao) (hst : Stp (Ab.loc w E s.heap) E s E' s' w') {b c κ : Nat} {ao : AO} {o : Obj}
    (hb : G b ao) (hn : s.heap.get b = none) (hE : E b = some (c, κ)) (ho : w.heap[c]? = some o) : w'.heap[c]? = some o := by
  rw [← ho]
  refine hst.inv.frame c (size_of_get ho) ?_
  rintro ⟨b0, ao0, κ0, g1, g2, g3⟩
  have := h.inj b0 b ao0 ao c κ0 κ (hs _ _ g1) hb g3 hE
  subst this
  rw [hn] at g1; cases g1

theorem InvG.outer {G : Nat → AO → Prop} {s s' : St} (h : InvG F E G w) (hs : ∀ b ao, s.heap.get b = some ao → G b ao) (hst : Stp (Ab.loc w E s.heap) E s E' s' w') :
    ∀ k, k < F.w0.heap.size → ¬ F.S k → w'.heap[k]? = F.w0.heap[k]? := fun k hk hS => by
  rw [← h.frame k hk hS]
  refine hst.inv.frame k (Nat.lt_of_lt_of_le hk h.size) ?_
  rintro ⟨b0, ao0, κ0, g1, g2, g3⟩
  rcases h.own b0 ao0 k κ0 (hs _ _ g1) g2 g3 with h1 | h1
  · omega
  · exact hS h1

/-- put together again -/
theorem InvG.combine {G G' : Nat → AO → Prop} {s s' : St} (h : InvG F E G w) (hs : ∀ b ao, s.heap.get b = some ao → G b ao) (hf : Free E s.next)
    (hst : Stp (Ab.loc w E s.heap) E s E' s' w') (hG : ∀ b ao, G' b ao → s'.heap.get b = some ao ∨ (s.heap.get b = none ∧ G b ao)) : InvG F E' G' w' where
  tape := hst.inv.tape.trans h.tape
  os := hst.inv.os.trans h.os
  out := hst.inv.out.trans h.out
  size := Nat.le_trans h.size hst.inv.size
  frame := h.outer hs hst
  obj := fun b ao hb => by
    rcases hG b ao hb with g | ⟨g1, g2⟩
    · exact hst.inv.obj b ao g
    · obtain ⟨c, κ, o, h1, h2, h3⟩ := h.obj b ao g2
      exact ⟨c, κ, o, by rw [hst.old b (h.lt hf g2)]; exact h1, h.keep hs hst g2 g1 h1 h2, h3.mono (hst.Le hf)⟩
  own := fun b ao c κ hb hrw hE => by
    rcases hG b ao hb with g | ⟨g1, g2⟩
    · rcases hst.inv.own b ao c κ g hrw hE with h1 | ⟨b0, ao0, κ0, h1, h2, h3⟩
      · exact .inl (Nat.le_trans h.size h1)
      · exact h.own b0 ao0 c κ0 (hs _ _ h1) h2 h3
    · rw [hst.old b (h.lt hf g2)] at hE
      exact h.own b ao c κ g2 hrw hE
  inj := by
    have mixed : ∀ b b' ao ao' c κ κ', s'.heap.get b = some ao → s.heap.get b' = none → G b' ao' → E' b = some (c, κ) → E' b' = some (c, κ') → b = b' := by
      intro b b' ao ao' c κ κ' g g1 g2 e e'
      rw [hst.old b' (h.lt hf g2)] at e'
      rcases Nat.lt_or_ge b s.next with hlt | hge
      · rw [hst.old b hlt] at e
        cases hb : s.heap.get b with
        | none => rw [hst.keys b hlt hb] at g; cases g
        | some ao0 => exact h.inj b b' ao0 ao' c κ κ' (hs _ _ hb) g2 e e'
      · rcases hst.fresh b c κ hge e with h1 | ⟨b0, ao0, h1, h2⟩
        · obtain ⟨c1, κ1, o, k1, k2, _⟩ := h.obj b' ao' g2
          rw [e'] at k1; cases k1
          have h3 : w.heap.size ≤ c := h1
          have := size_of_get k2
          omega
        · have := h.inj b0 b' ao0 ao' c κ κ' (hs _ _ h1) g2 h2 e'
          subst this
          rw [g1] at h1; cases h1
    intro b b' ao ao' c κ κ' hb hb' e e'
    rcases hG b ao hb with g | ⟨g1, g2⟩ <;> rcases hG b' ao' hb' with k | ⟨k1, k2⟩
    · exact hst.inv.inj b b' ao ao' c κ κ' g k e e'
    · exact mixed b b' ao ao' c κ κ' g k1 k2 e e'
    · exact (mixed b' b ao' ao c κ' κ k g1 g2 e' e).symm
    · rw [hst.old b (h.lt hf g2)] at e; rw [hst.old b' (h.lt hf k2)] at e'
      exact h.inj b b' ao ao' c κ κ' g2 k2 e e'

/-- a new block, under another number -/
theorem InvG.alloc {G : Nat → AO → Prop} {s' : St} {m n : Nat} {ao : AO} (h : InvG F E G w) (_hf : Free E n) (hm : m < n) (hEm : E m = none)
    (hst : Stp (Ab.loc w E .e) E ⟨.e, n⟩ E' s' w') (ha : s'.heap.get n = some ao) (hl : ao.lacks n = true) :
    ∃ p, E' n = some p ∧ InvG F (upd E m p) (fun b a => G b a ∨ (b = m ∧ a = ao)) w' := by
  obtain ⟨c, κ, o, h1, h2, h3⟩ := hst.inv.obj n ao ha
  have hle : Le E (upd E m (c, κ)) := upd_le _ hEm
  have hnone : ∀ b, (Tr.e : Tr AO).get b = none := fun b => by cases b <;> rfl
  have hsub : ∀ b ao, (Tr.e : Tr AO).get b = some ao → G b ao := fun b ao hb => by rw [hnone] at hb; cases hb
  have hc : w.heap.size ≤ c := by
    rcases hst.fresh n c κ (Nat.le_refl _) h1 with h4 | ⟨b0, ao0, h4, _⟩
    · exact h4
    · rw [hnone] at h4; cases h4
  have hG : ∀ b a, G b a → b ≠ m := by
    rintro b a hb rfl
    obtain ⟨c', κ', o', g1, _⟩ := h.obj b a hb
    rw [hEm] at g1; cases g1
  refine ⟨(c, κ), h1, ?_⟩
  refine ⟨hst.inv.tape.trans h.tape, hst.inv.os.trans h.os, hst.inv.out.trans h.out, Nat.le_trans h.size hst.inv.size, h.outer (s := ⟨.e, n⟩) hsub hst, ?_, ?_, ?_⟩
  · rintro b a (hb | ⟨rfl, rfl⟩)
    · obtain ⟨c', κ', o', g1, g2, g3⟩ := h.obj b a hb
      exact ⟨c', κ', o', hle _ _ g1, h.keep (s := ⟨.e, n⟩) hsub hst hb (hnone b) g1 g2, g3.mono hle⟩
    · refine ⟨c, κ, o, upd_same _ _ _, h2, h3.lacks (n := n) (fun k p hk hp => ?_) hl⟩
      rw [hst.old k hk] at hp
      exact hle _ _ hp
  · rintro b a c' κ' (hb | ⟨rfl, rfl⟩) hrw hE
    · rw [upd_other _ _ (hG b a hb)] at hE
      exact h.own b a c' κ' hb hrw hE
    · rw [upd_same] at hE; cases hE
      exact .inl (Nat.le_trans h.size hc)
  · have old : ∀ b a κ', G b a → E b = some (c, κ') → False := fun b a κ' hb hE => by
      obtain ⟨c', κ1, o', g1, g2, _⟩ := h.obj b a hb
      rw [hE] at g1; cases g1
      have := size_of_get g2
      omega
    rintro b b' a a' c' κ1 κ2 (hb | ⟨rfl, rfl⟩) (hb' | ⟨rfl, rfl⟩) e e'
    · rw [upd_other _ _ (hG b a hb)] at e; rw [upd_other _ _ (hG b' a' hb')] at e'
      exact h.inj b b' a a' c' κ1 κ2 hb hb' e e'
    · rw [upd_same] at e'; cases e'
      rw [upd_other _ _ (hG b a hb)] at e
      exact (old b a _ hb e).elim
    · rw [upd_same] at e; cases e
      rw [upd_other _ _ (hG b' a' hb')] at e'
      exact (old b' a' _ hb' e').elim
    · rfl

end
end Go.Ab
