/-
  The abstract evaluator: contracts of calls out of it; calls worked out once; tables of a program; a start memory. No condition.
-/
import Derived.Below
import Derived.Laws.AppendOwn
import Derived.OpenShut
import Derived.ChangeArms
import Derived.LaidSub
import Derived.Test.YtiocolgkkdfokaaGreatDoorEvD
/-! From the evaluator's answer to a call's contract. -/
namespace Go.Ab
noncomputable section
open Go.RowKit
variable {P : Program} {C : Ctx}

/-- Whatever memory holds what the evaluator was given: the call gives what the evaluator says, and leaves all that was there. -/
theorem calls_of_ev (hC : CtxOK P C) (hH : Hooks P C) {n f : Nat} {args : List AV} {xs : Array Value} {s s' : St} {v : AV} {E : Blk} {W : World} (hfree : Free E s.next) (hglobs : Globs C E)
    (hobj : ∀ b ao, s.heap.get b = some ao → ao.rw = false ∧ ∃ c κ o, E b = some (c, κ) ∧ W.heap[c]? = some o ∧ ORel E κ ao o)
    (hinj : ∀ b b' ao ao' c κ κ', s.heap.get b = some ao → s.heap.get b' = some ao' → E b = some (c, κ) → E b' = some (c, κ') → b = b')
    (hx : Rels E args xs.toList) (h : ev C n (.call f args s) = .ok (.en (.returned v) s')) :
    Calls P f xs W (fun e W' => ∃ E' x, e = .returned x ∧ Rel E' v x ∧ Below W.heap.size W W') := by
  have hs : Snd P C (.call f args s) (.en (.returned v) s') := sound hC hH n _ _ h
  have hinv : Inv ⟨W, fun _ => False⟩ E s.heap W := by
    refine ⟨rfl, rfl, rfl, Nat.le_refl _, fun _ _ _ => rfl, fun b ao hb => (hobj b ao hb).2, fun b ao c κ hb hrw hE => ?_, hinj⟩
    rw [(hobj b ao hb).1] at hrw; cases hrw
  refine hs _ E W xs _ ⟨hfree, hinv, hglobs⟩ hx fun E' e' w' he hst => ?_
  cases he with
  | returned hv =>
    exact ⟨E', _, rfl, hv, hst.inv.os, hst.inv.tape, hst.inv.out, hst.inv.size, fun k hk => hst.inv.frame k hk (fun h => h)⟩

/-- .. where it gives a truth value -/
theorem calls_bool (hC : CtxOK P C) (hH : Hooks P C) {n f : Nat} {args : List AV} {xs : Array Value} {s s' : St} {q : Bool} {E : Blk} {W : World} (hfree : Free E s.next) (hglobs : Globs C E)
    (hobj : ∀ b ao, s.heap.get b = some ao → ao.rw = false ∧ ∃ c κ o, E b = some (c, κ) ∧ W.heap[c]? = some o ∧ ORel E κ ao o)
    (hinj : ∀ b b' ao ao' c κ κ', s.heap.get b = some ao → s.heap.get b' = some ao' → E b = some (c, κ) → E b' = some (c, κ') → b = b')
    (hx : Rels E args xs.toList) (h : ev C n (.call f args s) = .ok (.en (.returned (.bool q)) s')) :
    Calls P f xs W (fun e W' => e = .returned (.bool q) ∧ Below W.heap.size W W') :=
  (calls_of_ev hC hH hfree hglobs hobj hinj hx h).mono fun e W' ⟨E', x, h1, h2, h3⟩ => by
    cases h2
    exact ⟨h1, h3⟩

/-! tables -/
/-- what holds of every entry -/
def Tr.Ok {α : Type} : Tr α → (Nat → α → Prop) → Prop
  | .e, _ => True
  | .n u l r, Q => (∀ a, u = some a → Q 0 a) ∧ l.Ok (fun k => Q (2 * k + 1)) ∧ r.Ok (fun k => Q (2 * k + 2))

theorem Tr.Ok.get {α : Type} : ∀ {t : Tr α} {Q : Nat → α → Prop}, t.Ok Q → ∀ {k : Nat} {a : α}, t.get k = some a → Q k a
  | .e, _, _, k, a, h => by cases k <;> cases h
  | .n u l r, Q, ⟨h0, h1, h2⟩, 0, a, h => h0 a h
  | .n u l r, Q, ⟨h0, h1, h2⟩, k + 1, a, h => by
    rw [Tr.get_succ] at h
    by_cases hk : k % 2 = 0
    · rw [if_pos hk] at h
      have := Tr.Ok.get h1 h
      have e : 2 * (k / 2) + 1 = k + 1 := by omega
      rwa [e] at this
    · rw [if_neg hk] at h
      have := Tr.Ok.get h2 h
      have e : 2 * (k / 2) + 2 = k + 1 := by omega
      rwa [e] at this

/-- a function that is entered -/
theorem callFunc_enter {f : Nat} {fn : Func} {c : Code} (hf : P.funcs[f]? = some fn) (hb : fn.body = some c) (hn : (fn.name == "runtime.NumGoroutine") = false) (args : Array Value) (w : World) :
    (callFunc f args).run P w = .ok (.enter f args) w := by
  have hn' : ¬ fn.name = "runtime.NumGoroutine" := fun h => by rw [h] at hn; exact absurd hn (by decide)
  simp [callFunc, hf, hb, hn']

end
end Go.Ab

/-! A call whose answer has been worked out once: taken up as a hook. -/
namespace Go.Ab
noncomputable section
variable {P : Program} {C : Ctx} {F : Fr} {E E' : Blk} {w w' : World}

def AO.same : AO → AO → Bool
  | .cells cs e f m, .cells cs' e' f' m' => AV.sames cs cs' && Nat.beq e e' && decide (f = f') && decide (m = m')
  | .tab cs, .tab cs' => AV.sames cs cs'
  | _, _ => false

theorem AO.same_ok {a b : AO} (h : AO.same a b = true) : a = b := by
  cases a <;> cases b <;> first
    | cases h
    | (simp only [AO.same] at h; rw [AV.sames_ok h]; done)
    | (simp only [AO.same, Bool.and_eq_true, decide_eq_true_eq] at h
       obtain ⟨⟨⟨h1, h2⟩, h3⟩, h4⟩ := h
       rw [AV.sames_ok h1, beq_true h2, h3, h4])

/-- memory of these blocks -/
def heapOf : List (Nat × AO) → Tr AO
  | [] => .e
  | p :: l => (heapOf l).put (some p.2) dep p.1

/-- these blocks stand in memory -/
def hasAll (H : Tr AO) : List (Nat × AO) → Bool
  | [] => true
  | p :: l => (match H.get p.1 with | some a => AO.same a p.2 | none => false) && hasAll H l

/-- without those that may be written -/
def dropRw : List (Nat × AO) → Tr AO → Tr AO
  | [], H => H
  | p :: l, H => cond p.2.rw (dropRw l (H.put none dep p.1)) (dropRw l H)

structure Memo where
  args : List AV
  heap : List (Nat × AO)
  next : Nat
  val : AV
  after : Nat

def Memo.fits (m : Memo) (args : List AV) (s : St) : Bool := AV.sames args m.args && Nat.beq s.next m.next && hasAll s.heap m.heap

def memoHook : List Memo → List AV → St → Res (AV × St)
  | [], _, _ => .bad "memo"
  | m :: l, args, s => cond (m.fits args s) (.ok (m.val, { heap := dropRw m.heap s.heap, next := m.after })) (memoHook l args s)

theorem heapOf_get : ∀ {l : List (Nat × AO)} {b : Nat} {ao : AO}, (heapOf l).get b = some ao → ∃ p ∈ l, p.1 = b ∧ p.2 = ao
  | [], b, ao, h => by cases b <;> cases h
  | p :: l, b, ao, h => by
    rcases put_some h with ⟨h1, h2⟩ | ⟨_, h2⟩
    · exact ⟨p, .head _, h1.symm, h2⟩
    · obtain ⟨q, h3, h4⟩ := heapOf_get h2
      exact ⟨q, .tail _ h3, h4⟩

theorem hasAll_get {H : Tr AO} : ∀ {l : List (Nat × AO)}, hasAll H l = true → ∀ p ∈ l, H.get p.1 = some p.2
  | q :: l, h, p, hp => by
    simp only [hasAll, Bool.and_eq_true] at h
    cases hp with
    | head =>
      have h1 := h.1
      split at h1
      · rename_i a ha
        rw [ha, AO.same_ok h1]
      · cases h1
    | tail _ hp => exact hasAll_get h.2 p hp

theorem dropRw_get : ∀ {l : List (Nat × AO)} {H : Tr AO} {b : Nat} {ao : AO}, (dropRw l H).get b = some ao → H.get b = some ao ∧ ∀ p ∈ l, p.1 = b → p.2.rw = false
  | [], H, b, ao, h => ⟨h, fun p hp => by cases hp⟩
  | q :: l, H, b, ao, h => by
    unfold dropRw at h
    cases hq : q.2.rw with
    | true =>
      rw [hq] at h
      obtain ⟨h1, h2⟩ := dropRw_get h
      obtain ⟨h3, h4⟩ := put_none h1
      refine ⟨h4, fun p hp he => ?_⟩
      cases hp with
      | head => exact (h3 he.symm).elim
      | tail _ hp => exact h2 p hp he
    | false =>
      rw [hq] at h
      obtain ⟨h1, h2⟩ := dropRw_get h
      refine ⟨h1, fun p hp he => ?_⟩
      cases hp with
      | head => exact hq
      | tail _ hp => exact h2 p hp he

theorem memo_ok {C' : Ctx} (hg : C'.globs = C.globs) {f : Nat} {m : Memo} {H2 : Tr AO} (hs : Snd P C (.call f m.args ⟨heapOf m.heap, m.next⟩) (.en (.returned m.val) ⟨H2, m.after⟩))
    {args : List AV} {s : St} (hf : m.fits args s = true) : Snd P C' (.call f args s) (.en (.returned m.val) { heap := dropRw m.heap s.heap, next := m.after }) := by
  simp only [Memo.fits, Bool.and_eq_true] at hf
  obtain ⟨⟨h1, h2⟩, h3⟩ := hf
  have h1 := AV.sames_ok h1
  have h2 : s.next = m.next := beq_true h2
  have h3 := hasAll_get h3
  subst h1
  intro F E w xs R hp hx hR
  have hsub : ∀ b ao, (heapOf m.heap).get b = some ao → s.heap.get b = some ao := fun b ao hb => by
    obtain ⟨p, k1, k2, k3⟩ := heapOf_get hb
    subst k2 k3
    exact h3 p k1
  have hG := InvG.of hp.inv
  have hfs : Free E m.next := by rw [← h2]; exact hp.free
  refine hs (loc w E (heapOf m.heap)) E w xs R ⟨hfs, hG.loc hsub, fun g hg' => hp.globs g (by rw [hg]; exact hg')⟩ hx fun E' e' w' he hst => hR E' e' w' he ?_
  have hle : Le E E' := hst.Le hfs
  have hlt : ∀ b ao, s.heap.get b = some ao → b < m.next := fun b ao hb => by rw [← h2]; exact get_lt hp.free hp.inv hb
  refine ⟨fun b hb => hst.old b (by rw [← h2]; exact hb), by rw [h2]; exact hst.le, hst.free, ?_, ?_, ?_⟩
  · refine ⟨hst.inv.tape.trans hG.tape, hst.inv.os.trans hG.os, hst.inv.out.trans hG.out, Nat.le_trans hG.size hst.inv.size, hG.outer (s := ⟨heapOf m.heap, m.next⟩) hsub hst, ?_, ?_, ?_⟩
    · intro b ao hb
      obtain ⟨g1, g2⟩ := dropRw_get hb
      obtain ⟨c, κ, o, k1, k2, k3⟩ := hp.inv.obj b ao g1
      refine ⟨c, κ, o, hle _ _ k1, ?_, k3.mono hle⟩
      rw [← k2]
      refine hst.inv.frame c (size_of_get k2) ?_
      rintro ⟨b0, ao0, κ0, q1, q2, q3⟩
      have := hp.inv.inj b0 b ao0 ao c κ0 κ (hsub _ _ q1) g1 q3 k1
      subst this
      obtain ⟨p, r1, r2, r3⟩ := heapOf_get q1
      have := g2 p r1 r2
      rw [r3] at this
      rw [this] at q2; cases q2
    · intro b ao c κ hb hrw hE
      obtain ⟨g1, g2⟩ := dropRw_get hb
      rw [hst.old b (hlt b ao g1)] at hE
      exact hp.inv.own b ao c κ g1 hrw hE
    · intro b b' ao ao' c κ κ' hb hb' e e'
      obtain ⟨g1, _⟩ := dropRw_get hb
      obtain ⟨g2, _⟩ := dropRw_get hb'
      rw [hst.old b (hlt b ao g1)] at e
      rw [hst.old b' (hlt b' ao' g2)] at e'
      exact hp.inv.inj b b' ao ao' c κ κ' g1 g2 e e'
  · intro b hb hn
    cases hg' : (dropRw m.heap s.heap).get b with
    | none => rfl
    | some x => rw [(dropRw_get hg').1] at hn; cases hn
  · intro b c κ hb hE
    rcases hst.fresh b c κ (by rw [← h2]; exact hb) hE with h | ⟨b0, ao, k1, k2⟩
    · exact .inl (Nat.le_trans hG.size h)
    · exact .inr ⟨b0, ao, hsub _ _ k1, k2⟩

theorem memoHook_ok {C' : Ctx} (hg : C'.globs = C.globs) {f : Nat} : ∀ {l : List Memo}, (∀ m ∈ l, ∃ H2, Snd P C (.call f m.args ⟨heapOf m.heap, m.next⟩) (.en (.returned m.val) ⟨H2, m.after⟩)) →
    ∀ {args : List AV} {s : St} {p : AV × St}, memoHook l args s = .ok p → Snd P C' (.call f args s) (.en (.returned p.1) p.2)
  | [], _, args, s, p, h => by cases h
  | m :: l, hl, args, s, p, h => by
    unfold memoHook at h
    cases hf : m.fits args s with
    | true =>
      rw [hf] at h; cases h
      obtain ⟨H2, hs⟩ := hl m (.head _)
      exact memo_ok hg hs hf
    | false =>
      rw [hf] at h
      exact memoHook_ok hg (fun m' hm => hl m' (.tail _ hm)) h

end
end Go.Ab

/-! slices.Sorted(maps.Keys(m)), as a hook, over a contract for it. -/
namespace Go.Ab
noncomputable section
open Go.RowKit
variable {P : Program} {C : Ctx} {F : Fr} {E E' : Blk} {w w' : World}

/-- a block among others that a call has made -/
theorem Stp.made {s : St} {ao : AO} {o : Obj} {c κ : Nat} (hf : Free E s.next) (hi : Inv F E s.heap w) (hb : Below w.heap.size w w') (hc : w.heap.size ≤ c) (ho : w'.heap[c]? = some o)
    (hr : ORel (upd E s.next (c, κ)) κ ao o) : Stp F E s (upd E s.next (c, κ)) (s.new ao) w' := by
  have hn := hf _ (Nat.le_refl s.next)
  have hle : Go.Ab.Le E (upd E s.next (c, κ)) := upd_le _ hn
  have lt : ∀ b x c κ, s.heap.get b = some x → E b = some (c, κ) → c < w.heap.size := fun b x c κ hb hE => by
    obtain ⟨c', κ', o, h1, h2, _⟩ := hi.obj b x hb
    rw [hE] at h1; cases h1
    exact size_of_get h2
  refine ⟨fun b hb => upd_other _ _ (by omega), Nat.le_succ _, fun b hb => ?_, ⟨hb.tape.trans hi.tape, hb.os.trans hi.os, hb.output.trans hi.out, Nat.le_trans hi.size hb.size, ?_, ?_, ?_, ?_⟩, ?_, ?_⟩
  · have : s.next + 1 ≤ b := hb
    rw [upd_other _ _ (by omega)]; exact hf b (by omega)
  · intro k hk hS
    rw [hb.block k (Nat.lt_of_lt_of_le hk hi.size)]
    exact hi.frame k hk hS
  · intro b x hx
    rcases put_some hx with ⟨rfl, rfl⟩ | ⟨hne, hx⟩
    · exact ⟨c, κ, o, upd_same _ _ _, ho, hr⟩
    · obtain ⟨c', κ', o', h1, h2, h3⟩ := hi.obj b x hx
      exact ⟨c', κ', o', hle _ _ h1, by rw [hb.block c' (size_of_get h2)]; exact h2, h3.mono hle⟩
  · intro b x c' κ' hx hrw hE
    rcases put_some hx with ⟨rfl, rfl⟩ | ⟨hne, hx⟩
    · rw [upd_same] at hE; cases hE; exact .inl (Nat.le_trans hi.size hc)
    · rw [upd_other _ _ hne] at hE; exact hi.own _ _ _ _ hx hrw hE
  · intro b1 b2 x1 x2 c' κ1 κ2 h1 h2 e1 e2
    rcases put_some h1 with ⟨q1, p1⟩ | ⟨n1, g1⟩ <;> rcases put_some h2 with ⟨q2, p2⟩ | ⟨n2, g2⟩
    · rw [q1, q2]
    · rw [q1, upd_same] at e1; cases e1
      rw [upd_other _ _ n2] at e2
      have := lt _ _ _ _ g2 e2; omega
    · rw [q2, upd_same] at e2; cases e2
      rw [upd_other _ _ n1] at e1
      have := lt _ _ _ _ g1 e1; omega
    · rw [upd_other _ _ n1] at e1; rw [upd_other _ _ n2] at e2
      exact hi.inj _ _ _ _ _ _ _ g1 g2 e1 e2
  · intro b hb hn'
    cases hg : (s.new ao).heap.get b with
    | none => rfl
    | some x =>
      rcases put_some hg with ⟨h1, h2⟩ | ⟨h1, h2⟩
      · omega
      · rw [hn'] at h2; cases h2
  · intro b c' κ' hb' hE
    by_cases h1 : b = s.next
    · subst h1; rw [upd_same] at hE; cases hE; exact .inl (Nat.le_trans hi.size hc)
    · rw [upd_other _ _ h1, hf b hb'] at hE; cases hE

/-- nothing that was there has turned -/
theorem Stp.below {s : St} (hf : Free E s.next) (hi : Inv F E s.heap w) (hb : Below w.heap.size w w') : Stp F E s E s w' := by
  refine ⟨fun _ _ => rfl, Nat.le_refl _, hf, ⟨hb.tape.trans hi.tape, hb.os.trans hi.os, hb.output.trans hi.out, Nat.le_trans hi.size hb.size, ?_, ?_, hi.own, hi.inj⟩, fun _ _ h => h, fun b c κ hb hE => by rw [hf b hb] at hE; cases hE⟩
  · intro k hk hS
    rw [hb.block k (Nat.lt_of_lt_of_le hk hi.size)]
    exact hi.frame k hk hS
  · intro b x hx
    obtain ⟨c', κ', o', h1, h2, h3⟩ := hi.obj b x hx
    exact ⟨c', κ', o', h1, by rw [hb.block c' (size_of_get h2)]; exact h2, h3⟩

/-- what is asked of slices.Sorted (function f) at the iterator g of maps.Keys -/
def SortedK (P : Program) (f g strT : Nat) : Prop := ∀ (w : World) (Bm b : Nat) (es : Array MapEntry) (clock : Nat), w.cell? ⟨Bm, 0, none⟩ = some (.map (some b)) → w.heap[b]? = some (.map es clock) → es.size ≤ 1 →
  (∀ x ∈ es.toList, (∃ s : ByteArray, x.key = .string s ∧ s.size ≤ maxLen) ∧ x.born < clock) → Calls P f #[.func (.func g) #[] #[.pointer (some ⟨Bm, 0, none⟩)]] w (fun e w' => ∃ v, e = .returned v ∧ w'.ownsRow w.heap.size strT 1 v es.size (es.toList.map (·.key)) ∧
    (v = .slice none 0 0 ↔ es.size = 0) ∧ Below w.heap.size w w')

def sortedHook (g strT : Nat) (args : List AV) (s : St) : Res (AV × St) :=
  match args with
  | [.func (.func g') [] [.ptr b 0]] => cond (Nat.beq g' g) ((load1 s b 0).bind fun
    | .map (some r) => (entriesOf s r).bind fun p =>
      match p.1 with
      | [] => .ok (.snil, s)
      | [(.str k, _, n)] => cond (Nat.ble k.length 1000000 && Nat.blt n p.2) (.ok (regrown s none strT 1 .clean 1 [.str k])) (.bad "hook: the entry")
      | _ => .bad "hook: many"
    | _ => .bad "hook map") (.bad "hook")
  | _ => .bad "hook"

theorem sortedHook_ok {f g strT : Nat} (hK : SortedK P f g strT) {args : List AV} {s : St} {p : AV × St} (h : sortedHook g strT args s = .ok p) : Snd P C (.call f args s) (.en (.returned p.1) p.2) := by
  unfold sortedHook at h
  split at h
  · rename_i g' b
    obtain ⟨hg, h1⟩ := cond_ok h
    clear h
    have hg := beq_true hg
    subst hg
    obtain ⟨m, hm, h2⟩ := Res.bind_ok h1
    clear h1
    split at h2
    · rename_i r
      obtain ⟨q, hq, h⟩ := Res.bind_ok h2
      clear h2
      intro F E w xs R hp hx hR
      obtain ⟨c, κ, y, g1, g2, g3⟩ := load1_ok hp.inv hm
      cases g3 with | map hr =>
      rename_i cm κm
      obtain ⟨c2, κ2, es, k0, k1, k2, k3⟩ := entriesOf_ok hp.inv hq
      rw [hr] at k1; cases k1
      have hxs : xs = #[.func (.func g') #[] #[.pointer (some ⟨c, 0, none⟩)]] := by
        have : xs.toList = [.func (.func g') #[] #[.pointer (some ⟨c, 0, none⟩)]] := by
          generalize xs.toList = l at hx
          cases hx with | cons h1 h2 =>
          cases h2
          cases h1 with | func _ ha hb =>
          cases ha
          cases hb with | cons hb hc =>
          cases hc
          cases hb with | ptr _ hb =>
          rw [g1] at hb; cases hb
          rfl
        rw [← Array.toArray_toList (xs := xs), this]
      subst hxs
      split at h
      · rename_i hnil
        cases h
        rw [hnil] at k3
        have hes : es.toList = [] := by
          generalize es.toList = l at k3
          cases k3; rfl
        have hsz : es.size = 0 := by simpa using congrArg List.length hes
        refine (hK w c _ es _ g2 k2 (by omega) (by rw [hes]; simp)).mono ?_
        rintro e w' ⟨v, rfl, h1, h2, h3⟩
        have hv := h2.2 hsz
        subst hv
        exact hR E _ w' (.returned .snil) (.below hp.free hp.inv h3)
      · rename_i k v born hone
        obtain ⟨hfit, h⟩ := cond_ok h
        cases h
        rw [hone] at k3
        obtain ⟨x, hes, hkey, hborn⟩ : ∃ x, es.toList = [x] ∧ x.key = .string ⟨k.toArray⟩ ∧ x.born = born := by
          generalize es.toList = l at k3
          cases k3 with | cons hk hv hn ht =>
          cases ht
          rename_i x
          generalize hxk : x.key = xk at hk
          cases hk
          exact ⟨x, rfl, hxk, hn⟩
        simp only [Bool.and_eq_true] at hfit
        have hkl : k.length ≤ 1000000 := Nat.le_of_ble_eq_true hfit.1
        have hbc : born < q.2 := Nat.le_of_ble_eq_true hfit.2
        have hsz : es.size = 1 := by simpa using congrArg List.length hes
        refine (hK w c _ es _ g2 k2 (by omega) (by rw [hes]; intro y hy; simp at hy; subst hy; exact ⟨⟨_, hkey, by simp [ByteArray.size, maxLen]; omega⟩, by omega⟩)).mono ?_
        rintro e w' ⟨v, rfl, ⟨_, h1⟩, h2, h3⟩
        rcases h1 with ⟨_, h1⟩ | ⟨gb, cap, cur, rfl, h4, h5, h6, h7, h8, h9⟩
        · rw [hsz] at h1; cases h1
        · rw [hsz] at h6 h9 ⊢
          rw [hes] at h9
          simp only [List.map_cons, List.map_nil, hkey, Nat.mul_one] at h8 h9
          have hcur : cur.toList = [.string ⟨k.toArray⟩] ++ cur.toList.drop 1 := by
            rw [← h9]; exact (List.take_append_drop 1 cur.toList).symm
          have hfree := hp.free _ (Nat.le_refl s.next)
          refine hR (upd E s.next (gb, cap)) _ w' (.returned ?_) (Stp.made hp.free hp.inv h3 h4 h5 ?_)
          · have := Rel.slicev (E := upd E s.next (gb, cap)) 0 1 0 (upd_same _ _ _) (by omega)
            simpa [regrown] using this
          · refine ⟨[.string ⟨k.toArray⟩], cur.toList.drop 1, 0, 0, ?_, .cons (.str _) .nil, fun h => (by cases h), fun z hz => ?_, rfl⟩
            · rw [← hcur]
            · cases hz
              simp only [List.length_cons, List.length_nil, List.length_drop, Array.length_toList]
              omega
      · cases h
    · cases h2
  · cases h

end
end Go.Ab

/-! The evaluator's tables for a program. -/
namespace Go.Ab
noncomputable section
variable {P : Program}

structure FnOK (P : Program) (k : Nat) (fn : Func) : Prop where
  at' : P.funcs[k]? = some fn
  name : (fn.name == "runtime.NumGoroutine") = false
  body : fn.body.isSome = true

/-- the context over three tables -/
def tabCtx (globs : Nat) (ft : Tr Func) (et : Tr (Nat × Nat)) (tt : Tr TypeInfo) (plain : TypeId → Bool) (hook : Nat → Option (List AV → St → Res (AV × St))) : Ctx where
  globs := globs
  func := fun i => ft.get i
  ext := fun i => et.get i
  info := fun t => tt.get t
  desc := fun t => match tt.get t with
    | some i => match i.desc with
      | .named _ u => (tt.get u).map (·.desc)
      | d => some d
    | none => none
  plainEq := plain
  hook := hook

theorem tabCtx_ok {globs : Nat} {ft : Tr Func} {et : Tr (Nat × Nat)} {tt : Tr TypeInfo} {plain : TypeId → Bool} {hook : Nat → Option (List AV → St → Res (AV × St))}
    (hf : ft.Ok (FnOK P)) (ht : tt.Ok (fun k t => P.info? k = some t)) (he : et.Ok (fun k p => ExtOK P k p.1 p.2))
    (hp : ∀ t, plain t = true → P.stoodInHeld t = false ∧ P.eqGuardType P.depth t = false) (hm : P.follows .mixedOrders = true) : CtxOK P (tabCtx globs ft et tt plain hook) where
  info := fun t i h => ht.get h
  desc := fun t d h => by
    have h : (match tt.get t with
      | some i => match i.desc with
        | .named _ u => (tt.get u).map (·.desc)
        | d => some d
      | none => none) = some d := h
    unfold Program.underlying
    cases hi : tt.get t with
    | none => rw [hi] at h; cases h
    | some i =>
      rw [hi] at h
      rw [ht.get hi]
      obtain ⟨desc⟩ := i
      cases hd : desc with
      | named n u =>
        subst hd
        simp only at h ⊢
        cases hu : tt.get u with
        | none => rw [hu] at h; cases h
        | some j => rw [hu] at h; rw [ht.get hu]; exact h
      | _ => subst hd; exact h
  func := fun f fn h => (hf.get h).at'
  call := fun f fn h args w => by
    have h1 := hf.get h
    have h2 := h1.body
    cases hb : fn.body with
    | none => rw [hb] at h2; cases h2
    | some c => exact callFunc_enter h1.at' hb h1.name args w
  ext := fun f c e h => he.get (a := (c, e)) h
  plain := hp
  mixed := hm

end
end Go.Ab

/-! What a start memory that holds listed tables gives the evaluator: blocks that are read alone. -/
namespace Go.Ab
noncomputable section
variable {P : Program} {W : World}

/-- values in a row, from some offset on: a table -/
theorem tabRel_of {E : Blk} {c d : Nat} {cs : List AV} {vs : List Value} (hr : Rels E cs vs) (hpos : 0 < vs.length)
    (h : ∀ j v, vs[j]? = some v → W.cell? ⟨c, d + j, none⟩ = some v) : ∃ o, W.heap[c]? = some o ∧ ORel E d (.tab cs) o := by
  obtain ⟨xs, t, fr, hb⟩ : ∃ xs t fr, W.heap[c]? = some (.cells xs t fr) := by
    have h0 := h 0 vs[0] (by simp [hpos])
    unfold World.cell? at h0
    split at h0
    · exact ⟨_, _, _, by assumption⟩
    · cases h0
  have hx : ∀ j v, vs[j]? = some v → xs.toList[d + j]? = some v := fun j v hj => by
    have := h j v hj
    rw [cell_of hb] at this
    simpa using this
  have hlen : d + vs.length ≤ xs.toList.length := by
    have hlt : vs.length - 1 < vs.length := by omega
    have := hx (vs.length - 1) vs[vs.length - 1] (List.getElem?_eq_getElem hlt)
    have := (List.getElem?_eq_some_iff.1 this).1
    omega
  have hy : (xs.toList.drop d).take vs.length = vs := by
    apply List.ext_getElem?
    intro j
    by_cases hj : j < vs.length
    · rw [List.getElem?_take_of_lt hj, List.getElem?_drop, hx j vs[j] (List.getElem?_eq_getElem hj), List.getElem?_eq_getElem hj]
    · rw [List.getElem?_eq_none (by simp; omega), List.getElem?_eq_none (by omega)]
  refine ⟨_, hb, xs.toList.take d, vs, (xs.toList.drop d).drop vs.length, t, fr, ?_, by rw [List.length_take]; omega, hr⟩
  have e : xs.toList.take d ++ vs ++ (xs.toList.drop d).drop vs.length = xs.toList := by
    have e1 : vs ++ (xs.toList.drop d).drop vs.length = xs.toList.drop d := by
      have := List.take_append_drop vs.length (xs.toList.drop d)
      rw [hy] at this
      exact this
    rw [List.append_assoc, e1, List.take_append_drop]
  rw [e]

theorem cells_get {base : Nat} {a : Addr} {n : Nat} {vs : List Value} (h : W.cells? base a n = some vs) : vs.length = n ∧ ∀ j v, vs[j]? = some v → W.cell? (a.add j) = some v := by
  unfold World.cells? at h
  split at h
  · have hl := mapM_some_length h
    rw [List.length_range] at hl
    refine ⟨hl, fun j v hj => ?_⟩
    have hlt : j < n := by rw [← hl]; exact (List.getElem?_eq_some_iff.1 hj).1
    have := mapM_some_get h j j (by simp [hlt])
    rw [this, hj]
  · cases h

/-- a slice without spare that reads as these data: where it lies -/
theorem row_of_slice {t e : TypeId} {fuel : Nat} {cs : List Value} {ds : List (DataW Unit)} {p : List MemPlace} (ht : P.underlying t = some (.slice e)) (hn : 0 < ds.length) (hz : 0 < P.cellsOf e)
    (h : DataW.trod (fun _ => ()) P W 0 (fun _ => true) false fuel t cs = some (.slice ds [], p)) :
    ∃ c d n, cs = [.slice (some ⟨c, d, none⟩) ds.length ds.length] ∧ (∀ k, k < ds.length * P.cellsOf e → MemPlace.cell c (d + k) ∈ p) ∧
      ∀ i x, ds[i]? = some x → ∃ vs q, (∀ j v, vs[j]? = some v → W.cell? ⟨c, d + i * P.cellsOf e + j, none⟩ = some v) ∧ DataW.trod (fun _ => ()) P W 0 (fun _ => true) false n e vs = some (x, q) := by
  rcases DataW.trod_slice ht h with ⟨_, hx⟩ | ⟨a, len, cap, elems, rest, n, _, hcs, hx, _, hl, _, hlen, hel, hsp, _⟩
  · simp at hx
  · simp only [Prod.mk.injEq, DataW.slice.injEq] at hx
    obtain ⟨⟨h1, h2⟩, h3⟩ := hx
    have hr : rest = [] := by simpa using h2.symm
    obtain ⟨hr1, _⟩ := hsp rfl
    rw [hr] at hr1
    have hcap : cap = len := by simp at hr1; omega
    have hdl : ds.length = len := by rw [h1, List.length_map, hlen]
    have get : ∀ i x, ds[i]? = some x → ∃ vs q, W.cells? 0 (a.add (i * P.cellsOf e)) (P.cellsOf e) = some vs ∧ DataW.trod (fun _ => ()) P W 0 (fun _ => true) false n e vs = some (x, q) := fun i x hi => by
      have hlt : i < len := by rw [← hdl]; exact (List.getElem?_eq_some_iff.1 hi).1
      have := hel i hlt
      rw [h1, List.getElem?_map] at hi
      cases hy : elems[i]? with
      | none => rw [hy] at hi; cases hi
      | some y =>
        rw [hy] at hi this
        simp only [Option.map_some, Option.some.injEq] at hi
        obtain ⟨vs, k1, k2⟩ := Option.bind_eq_some_iff.1 this
        exact ⟨vs, y.2, k1, by rw [k2, ← hi]⟩
    obtain ⟨blk, d, spot⟩ := a
    have hspot : spot = none := by
      obtain ⟨vs, q, k1, _⟩ := get 0 ds[0] (by simp [hn])
      obtain ⟨k2, k3⟩ := cells_get k1
      have := k3 0 vs[0] (by simp [k2, hz])
      simp only [Nat.zero_mul, Addr.add, if_true] at this
      unfold World.cell? at this
      split at this
      · cases spot with
        | none => rfl
        | some s => simp at this
      · cases this
    subst hspot
    refine ⟨blk, d, n, by rw [hcs, hcap, hdl], fun k hk => ?_, fun i x hi => ?_⟩
    · rw [h3]
      refine List.mem_append_left _ ?_
      unfold MemPlace.row
      exact List.mem_map.2 ⟨k, List.mem_range.2 (by rw [hr, hlen, ← hdl]; simpa using hk), rfl⟩
    · obtain ⟨vs, q, k1, k2⟩ := get i x hi
      obtain ⟨_, k4⟩ := cells_get k1
      refine ⟨vs, q, fun j v hj => ?_, k2⟩
      have := k4 j v hj
      rwa [Addr.add_none, Addr.add_none] at this

/-- a struct of a text and a byte -/
theorem pair_of_struct {t : TypeId} {fuel : Nat} {vs : List Value} {f0 f1 : Field} {s : List UInt8} {k : Int} {q : List MemPlace} (ht : P.underlying t = some (.struct #[f0, f1]))
    (h0 : P.underlying f0.type = some .string) (h1 : P.underlying f1.type = some (.int .u8)) (o0 : f0.offset = 0) (o1 : f1.offset = 1) (c0 : P.cellsOf f0.type = 1) (c1 : P.cellsOf f1.type = 1) (ct : P.cellsOf t = 2)
    (h : DataW.trod (fun _ => ()) P W 0 (fun _ => true) false fuel t vs = some (.agg [.lit (.string s), .lit (.int .u8 k)], q)) : vs = [.string ⟨s.toArray⟩, .int .u8 k] := by
  obtain ⟨xs, n, _, hx, hl, hxl, hel⟩ := DataW.trod_struct ht h
  rw [ct] at hl
  simp only [Prod.mk.injEq, DataW.agg.injEq] at hx
  match vs, hl with
  | [a, b], _ =>
    match xs, hxl with
    | [x0, x1], _ =>
      have k0 := hel 0 f0 rfl
      have k1 := hel 1 f1 rfl
      rw [o0, c0] at k0
      rw [o1, c1] at k1
      obtain ⟨z0, a0, b0, _⟩ := DataW.trod_string h0 k0
      obtain ⟨z1, a1, b1, _⟩ := DataW.trod_int h1 k1
      simp only [List.map_cons, List.map_nil, List.cons.injEq, and_true] at hx
      obtain ⟨⟨e0, e1⟩, _⟩ := hx
      rw [b0] at e0
      rw [b1] at e1
      simp only [DataW.lit.injEq, Lit.string.injEq, Lit.int.injEq, true_and] at e0 e1
      simp only [List.drop_zero, List.take_succ_cons, List.take_zero, List.drop_succ_cons, List.cons.injEq, and_true] at a0 a1
      rw [a0, a1, e0, e1]

def pairs (l : List (List UInt8 × Int)) : List Value := l.flatMap fun p => [.string ⟨p.1.toArray⟩, .int .u8 p.2]
def pairsA (l : List (List UInt8 × Int)) : List AV := l.flatMap fun p => [.str p.1, .int .u8 p.2]

theorem pairs_rel {E : Blk} : ∀ l, Rels E (pairsA l) (pairs l)
  | [] => .nil
  | _ :: l => .cons (.str _) (.cons (.int _ _) (pairs_rel l))

theorem pairs_get : ∀ (l : List (List UInt8 × Int)) (j : Nat) (v : Value), (pairs l)[j]? = some v → ∃ i p k, l[i]? = some p ∧ j = i * 2 + k ∧ ([.string ⟨p.1.toArray⟩, .int .u8 p.2] : List Value)[k]? = some v
  | [], j, v, h => by simp [pairs] at h
  | p :: l, 0, v, h => ⟨0, p, 0, rfl, rfl, h⟩
  | p :: l, 1, v, h => ⟨0, p, 1, rfl, rfl, h⟩
  | p :: l, j + 2, v, h => by
    obtain ⟨i, q, k, h1, h2, h3⟩ := pairs_get l j v h
    exact ⟨i + 1, q, k, h1, by omega, h3⟩

/-- integers of one kind in an array -/
theorem ints_of_array {t e : TypeId} {n : Nat} {kd : IntKind} {fuel : Nat} {vs : List Value} {zs : List Int} {q : List MemPlace} (ht : P.underlying t = some (.array n e)) (he : P.underlying e = some (.int kd)) (ce : P.cellsOf e = 1) (ct : P.cellsOf t = zs.length) (hn : n = zs.length)
    (h : DataW.trod (fun _ => ()) P W 0 (fun _ => true) false fuel t vs = some (.agg (zs.map fun z => .lit (.int kd z)), q)) : vs = zs.map fun z => .int kd z := by
  obtain ⟨xs, m, _, hx, hlen, hl, hel⟩ := DataW.trod_array ht h
  simp only [Prod.mk.injEq, DataW.agg.injEq] at hx
  rw [ct] at hlen
  apply List.ext_getElem?
  intro i
  by_cases hi : i < zs.length
  · have h1 := hel i (by omega)
    rw [ce, Nat.mul_one] at h1
    have hxi : xs[i]? = some (xs[i]'(by omega)) := List.getElem?_eq_getElem (by omega)
    rw [hxi] at h1
    obtain ⟨z, e1, e2, _⟩ := DataW.trod_int he h1
    have h2 : vs[i]? = some (.int kd z) := by
      have := congrArg (·[0]?) e1
      simpa [List.getElem?_take, List.getElem?_drop] using this
    have h3 : (zs.map fun z => (DataW.lit (.int kd z) : DataW Unit))[i]? = some (xs[i]'(by omega)).1 := by
      rw [hx.1, List.getElem?_map, hxi]; rfl
    rw [e2] at h3
    simp only [List.getElem?_map, Option.map_eq_some_iff, DataW.lit.injEq, Lit.int.injEq, true_and] at h3
    obtain ⟨z', hz', rfl⟩ := h3
    simp [h2, hz']
  · rw [List.getElem?_eq_none (by omega), List.getElem?_eq_none (by simp; omega)]

def intsA (k : IntKind) (zs : List Int) : List AV := zs.map fun z => .int k z
theorem intsA_rel {E : Blk} {k : IntKind} : ∀ zs, Rels E (intsA k zs) (zs.map fun z => .int k z)
  | [] => .nil
  | _ :: zs => .cons (.int _ _) (intsA_rel zs)

/-- blocks 0 .. G - 1: the variables; block G: the table behind one of them -/
def startE (G c d : Nat) : Blk := fun b => if b < G then some (b, 0) else if b = G then some (c, d) else none

/-- the evaluator's first memory: a table of texts and bytes behind variable g1, an array of integers in variable g2 -/
def startS (G g1 g2 : Nat) (ops : List (List UInt8 × Int)) (k : IntKind) (zs : List Int) : St :=
  { heap := ((Tr.e.put (some (.tab [.tslice G ops.length])) dep g1).put (some (.tab (intsA k zs))) dep g2).put (some (.tab (pairsA ops))) dep G, next := G + 1 }

theorem laidStart_get {G g1 g2 : Nat} {ops : List (List UInt8 × Int)} {k : IntKind} {zs : List Int} {b : Nat} {ao : AO} (h : (startS G g1 g2 ops k zs).heap.get b = some ao) :
    (b = G ∧ ao = .tab (pairsA ops)) ∨ (b = g2 ∧ ao = .tab (intsA k zs)) ∨ (b = g1 ∧ ao = .tab [.tslice G ops.length]) := by
  rcases put_some h with ⟨h1, h2⟩ | ⟨_, h⟩
  · exact .inl ⟨h1, h2.symm⟩
  rcases put_some h with ⟨h1, h2⟩ | ⟨_, h⟩
  · exact .inr (.inl ⟨h1, h2.symm⟩)
  rcases put_some h with ⟨h1, h2⟩ | ⟨_, h⟩
  · exact .inr (.inr ⟨h1, h2.symm⟩)
  · cases b <;> cases h

/-- What two listed variables give. -/
theorem laidStart_ok {laid : List (String × DataW Unit)} {n1 n2 : String} {G g1 g2 t1 t2 e1 e2 : Nat} {f0 f1 : Field} {ops : List (List UInt8 × Int)} {zs : List Int} {k : IntKind}
    (hL : laidMet P laid W) (hf : laid.filter (fun x => x.1 == n1 || x.1 == n2) = [(n2, .agg (zs.map fun z => .lit (.int k z))), (n1, .slice (ops.map fun p => .agg [.lit (.string p.1), .lit (.int .u8 p.2)]) [])])
    (hg1 : P.globalNamed n1 = some g1) (hg2 : P.globalNamed n2 = some g2) (ht1 : (P.globals[g1]?).map (·.type) = some t1) (ht2 : (P.globals[g2]?).map (·.type) = some t2)
    (hu1 : P.underlying t1 = some (.slice e1)) (hu2 : P.underlying t2 = some (.array zs.length e2)) (hue2 : P.underlying e2 = some (.int k)) (hue1 : P.underlying e1 = some (.struct #[f0, f1]))
    (h0 : P.underlying f0.type = some .string) (h1 : P.underlying f1.type = some (.int .u8)) (o0 : f0.offset = 0) (o1 : f1.offset = 1) (c0 : P.cellsOf f0.type = 1) (c1 : P.cellsOf f1.type = 1)
    (ce1 : P.cellsOf e1 = 2) (ce2 : P.cellsOf e2 = 1) (ct2 : P.cellsOf t2 = zs.length) (hops : 0 < ops.length) (hzs : 0 < zs.length) (hl1 : g1 < G) (hl2 : g2 < G) (hne : g1 ≠ g2) :
    ∃ c d, (∀ b ao, (startS G g1 g2 ops k zs).heap.get b = some ao → ao.rw = false ∧ ∃ c' κ o, startE G c d b = some (c', κ) ∧ W.heap[c']? = some o ∧ ORel (startE G c d) κ ao o) ∧
      (∀ b b' ao ao' c' κ κ', (startS G g1 g2 ops k zs).heap.get b = some ao → (startS G g1 g2 ops k zs).heap.get b' = some ao' → startE G c d b = some (c', κ) → startE G c d b' = some (c', κ') → b = b') := by
  have hL' := hL.filter (fun x => x.1 == n1 || x.1 == n2)
  rw [hf] at hL'
  obtain ⟨ps, ⟨g2', t2', cs2, fu2, p2, q2, a1, a2, a3, a4, ⟨g1', t1', cs1, fu1, p1, q1, b1, b2, b3, b4, b5, rfl⟩, rfl⟩, hnd, _⟩ := hL'
  obtain rfl := Option.some.inj (hg2.symm.trans a1)
  obtain rfl := Option.some.inj (hg1.symm.trans b1)
  obtain rfl := Option.some.inj (ht2.symm.trans a2)
  obtain rfl := Option.some.inj (ht1.symm.trans b2)
  have hb5 : q1 = [] := b5
  subst hb5
  have hcs2 := ints_of_array hu2 hue2 ce2 ct2 rfl a4
  obtain ⟨c, d, n, hcs1, hpl, hel⟩ := row_of_slice hu1 (by rw [List.length_map]; exact hops) (by omega) b4
  rw [List.length_map] at hcs1 hpl
  rw [ce1] at hpl
  have hcell : ∀ {g : Nat} {nm : String} {cs : Array Value}, P.globalNamed nm = some g → W.var? P nm = some cs → ∀ j v, cs.toList[j]? = some v → W.cell? ⟨g, 0 + j, none⟩ = some v := fun hg hv j v hj => by
    unfold World.var? at hv
    rw [hg] at hv
    simp only [Option.bind_some] at hv
    split at hv
    · cases hv
      rename_i hb
      rw [cell_of hb, Nat.zero_add]
      simpa using hj
    · cases hv
  have hs1 : cs1.size = 1 := by
    have := congrArg List.length hcs1; simpa using this
  have hs2 : cs2.size = zs.length := by
    have := congrArg List.length hcs2; simpa using this
  -- the three blocks
  have G1 : startE G c d G = some (c, d) := by simp [startE]
  have Gg : ∀ g, g < G → startE G c d g = some (g, 0) := fun g hg => by simp [startE, hg]
  obtain ⟨oG, tG1, tG2⟩ := tabRel_of (W := W) (c := c) (d := d) (E := startE G c d) (pairs_rel ops) (by cases ops with | nil => simp at hops | cons p l => simp [pairs]) (fun j v hj => by
    obtain ⟨i, p, kk, m1, m2, m3⟩ := pairs_get ops j v hj
    obtain ⟨vs, q, m4, m5⟩ := hel i (.agg [.lit (.string p.1), .lit (.int .u8 p.2)]) (by rw [List.getElem?_map, m1]; rfl)
    have hvs := pair_of_struct hue1 h0 h1 o0 o1 c0 c1 ce1 m5
    have := m4 kk v (by rw [hvs]; exact m3)
    rw [ce1] at this
    rw [m2, ← Nat.add_assoc]
    exact this)
  obtain ⟨o2, t21, t22⟩ := tabRel_of (W := W) (c := g2) (d := 0) (E := startE G c d) (intsA_rel (k := k) zs) (by simpa using hzs) (fun j v hj => hcell hg2 a3 j v (by rw [hcs2]; exact hj))
  obtain ⟨o1', t11, t12⟩ := tabRel_of (W := W) (c := g1) (d := 0) (E := startE G c d) (cs := [.tslice G ops.length]) (vs := [.slice (some ⟨c, d, none⟩) ops.length ops.length]) (.cons (.tslice _ G1) .nil) (by simp)
    (fun j v hj => hcell hg1 b3 j v (by rw [hcs1]; exact hj))
  -- no place twice
  have in1 : MemPlace.cell g1 0 ∈ MemPlace.row ⟨g1, 0, none⟩ cs1.size := by rw [hs1]; simp [MemPlace.row]
  have in2 : ∀ j, j < zs.length → MemPlace.cell g2 j ∈ MemPlace.row ⟨g2, 0, none⟩ cs2.size := fun j hj => by
    rw [hs2]; unfold MemPlace.row; exact List.mem_map.2 ⟨j, List.mem_range.2 hj, by simp⟩
  have inc : MemPlace.cell c d ∈ p1 := by have := hpl 0 (by omega); simpa using this
  have hc0 : ∃ v, W.cell? ⟨c, d, none⟩ = some v := by
    obtain ⟨vs, q, m4, m5⟩ := hel 0 (.agg [.lit (.string ops[0].1), .lit (.int .u8 ops[0].2)]) (by rw [List.getElem?_map, List.getElem?_eq_getElem hops]; rfl)
    have hvs := pair_of_struct hue1 h0 h1 o0 o1 c0 c1 ce1 m5
    exact ⟨_, by simpa using m4 0 (.string ⟨ops[0].1.toArray⟩) (by rw [hvs]; rfl)⟩
  have size_of : ∀ {g : Nat} {nm : String} {cs : Array Value} {v : Value}, P.globalNamed nm = some g → W.var? P nm = some cs → W.cell? ⟨g, d, none⟩ = some v → d < cs.size := fun hg hv hc => by
    unfold World.var? at hv
    rw [hg] at hv
    simp only [Option.bind_some] at hv
    split at hv
    · cases hv
      rename_i hb
      rw [cell_of hb] at hc
      exact (Array.getElem?_eq_some_iff.1 hc).1
    · cases hv
  have n1 : c ≠ g1 := fun e => by
    subst e
    obtain ⟨v, hv⟩ := hc0
    have := size_of hg1 b3 hv
    have hd : d = 0 := by omega
    subst hd
    have := (List.nodup_append.1 (List.nodup_append.1 hnd).2.1).1
    exact (List.nodup_append.1 this).2.2 _ in1 _ inc rfl
  have n2 : c ≠ g2 := fun e => by
    subst e
    obtain ⟨v, hv⟩ := hc0
    have := size_of hg2 a3 hv
    rw [hs2] at this
    have hx := (List.nodup_append.1 hnd).2.2 (MemPlace.cell c d) (List.mem_append_left _ (in2 d this)) (MemPlace.cell c d) (List.mem_append_left _ (List.mem_append_right _ inc))
    exact hx rfl
  refine ⟨c, d, fun b ao hb => ?_, fun b b' ao ao' c' κ κ' hb hb' h2 h3 => ?_⟩
  · rcases laidStart_get hb with ⟨rfl, rfl⟩ | ⟨rfl, rfl⟩ | ⟨rfl, rfl⟩
    · exact ⟨rfl, c, d, oG, G1, tG1, tG2⟩
    · exact ⟨rfl, _, 0, o2, Gg _ hl2, t21, t22⟩
    · exact ⟨rfl, _, 0, o1', Gg _ hl1, t11, t12⟩
  · rcases laidStart_get hb with ⟨rfl, rfl⟩ | ⟨rfl, rfl⟩ | ⟨rfl, rfl⟩ <;> rcases laidStart_get hb' with ⟨rfl, rfl⟩ | ⟨rfl, rfl⟩ | ⟨rfl, rfl⟩ <;>
      first
        | rfl
        | (simp only [G1, Gg _ hl1, Gg _ hl2, Option.some.injEq, Prod.mk.injEq] at h2 h3
           exfalso
           first
             | exact n1 (h2.1.trans h3.1.symm)
             | exact n2 (h2.1.trans h3.1.symm)
             | exact n1 (h3.1.trans h2.1.symm)
             | exact n2 (h3.1.trans h2.1.symm)
             | exact hne (h2.1.trans h3.1.symm)
             | exact hne (h3.1.trans h2.1.symm))

/-! out of a run in the kernel -/
def okOnce (v : AV) (n : Nat) (r : Res Out) : Bool :=
  match r with
  | .ok (.en (.returned u) s) => AV.same u v && Nat.beq s.next n
  | _ => false

theorem okOnce_ok {v : AV} {n : Nat} {r : Res Out} (h : okOnce v n r = true) : ∃ H, r = .ok (.en (.returned v) ⟨H, n⟩) := by
  unfold okOnce at h
  split at h
  · rename_i u s
    simp only [Bool.and_eq_true] at h
    have h1 := AV.same_ok h.1
    have h2 := beq_true h.2
    subst h1 h2
    exact ⟨s.heap, rfl⟩
  · cases h

theorem memo_of {P : Program} {C : Ctx} (hC : CtxOK P C) (hH : Hooks P C) {n f : Nat} {m : Memo} (h : okOnce m.val m.after (evF C n (.call f m.args ⟨heapOf m.heap, m.next⟩)) = true) :
    ∃ H2, Snd P C (.call f m.args ⟨heapOf m.heap, m.next⟩) (.en (.returned m.val) ⟨H2, m.after⟩) := by
  obtain ⟨H, hr⟩ := okOnce_ok h
  rw [evF_eq] at hr
  exact ⟨H, sound hC hH n _ _ hr⟩

theorem startE_free {G c d : Nat} : Free (startE G c d) (G + 1) := fun b hb => by
  have h1 : ¬ b < G := by omega
  have h2 : ¬ b = G := by omega
  simp [startE, h1, h2]
theorem startE_globs {C : Ctx} {c d : Nat} : Globs C (startE C.globs c d) := fun g hg => by simp [startE, hg]

end
end Go.Ab
