/-
  A system without files and a new shell on it, worked out; what is asked of the system. No condition.
-/
import Derived.Test.YtiocolgkkdfokaaGreatDoorAlive
import Derived.Test.YtiocolgkkdfokaaGreatDoorSvC
namespace Go.Proofs.YtiocolgkkdfokaaGreatDoor
open Go Go.Ab Go.RowKit Go.Proofs.YtiocolgkkdfokaaGreatDoor

def zeroI : Int → Bool
  | .ofNat n => Nat.beq n 0
  | _ => false
theorem zeroI_ok {n : Int} (h : zeroI n = true) : n = 0 := by
  cases n with
  | ofNat n => rw [Nat.eq_of_beq_eq_true h]; rfl
  | negSucc n => cases h
def retOf : Res Out → Option (AV × St)
  | .ok (.en (.returned v) s) => some (v, s)
  | _ => none
theorem retOf_ok {r : Res Out} {p : AV × St} (h : retOf r = some p) : r = .ok (.en (.returned p.1) p.2) := by
  unfold retOf at h
  split at h
  · cases h; rfl
  · cases h
def roomV : AV → Option Nat
  | .tuple [.ptr b 0, .bool true] => some b
  | _ => none
theorem roomV_ok {v : AV} {b : Nat} (h : roomV v = some b) : v = .tuple [.ptr b 0, .bool true] := by
  unfold roomV at h
  split at h
  · cases h; rfl
  · cases h
def newV : AV → Option Nat
  | .tuple [.ptr b 0, .int .i64 n] => cond (zeroI n) (some b) none
  | _ => none
theorem newV_ok {v : AV} {b : Nat} (h : newV v = some b) : v = .tuple [.ptr b 0, .int .i64 0] := by
  unfold newV at h
  split at h
  · rename_i n
    cases hz : zeroI n with
    | true => rw [hz] at h; cases h; rw [zeroI_ok hz]
    | false => rw [hz] at h; cases h
  · cases h
def shellO : AO → Option Nat
  | .cells [.ptr _ _, .map (some m), .int .i64 n] _ none _ => cond (zeroI n) (some m) none
  | _ => none
theorem shellO_ok {o : AO} {m : Nat} (h : shellO o = some m) : ∃ r q e md, o = .cells [.ptr r q, .map (some m), .int .i64 0] e none md := by
  unfold shellO at h
  split at h
  · rename_i r q m' n e md
    cases hz : zeroI n with
    | true => rw [hz] at h; cases h; rw [zeroI_ok hz]; exact ⟨r, q, e, md, rfl⟩
    | false => rw [hz] at h; cases h
  · cases h
def emptyO : AO → Option Unit
  | .map [] _ => some ()
  | _ => none
theorem emptyO_ok {o : AO} {u : Unit} (h : emptyO o = some u) : ∃ clk, o = .map [] clk := by
  unfold emptyO at h
  split at h
  · rename_i clk; exact ⟨clk, rfl⟩
  · cases h
def statsV : AV → Option Unit
  | .agg (.int .i64 n :: _) => cond (zeroI n) (some ()) none
  | _ => none
theorem statsV_ok {v : AV} {u : Unit} (h : statsV v = some u) : ∃ l, v = .agg (.int .i64 0 :: l) := by
  unfold statsV at h
  split at h
  · rename_i n l
    cases hz : zeroI n with
    | true => rw [zeroI_ok hz]; exact ⟨l, rfl⟩
    | false => rw [hz] at h; cases h
  · cases h

noncomputable def s0 : St := ⟨.e, 14 + 1⟩
noncomputable def chk : Bool := Option.isSome
  ((retOf (evF ctx2 3000 (.call 5 [.snil] s0))).bind fun p1 => (roomV p1.1).bind fun b =>
   (retOf (evF ctx2 3000 (.call 6 [.ptr b 0] p1.2))).bind fun p2 => (newV p2.1).bind fun c =>
   (p2.2.heap.get c).bind fun ao => (shellO ao).bind fun m => (p2.2.heap.get m).bind fun mo => (emptyO mo).bind fun _ =>
   (retOf (evF ctx2 3000 (.call 13 [.ptr b 0] (p2.2.drop m)))).bind fun p3 => (statsV p3.1))
theorem chk_true : chk = true := by kernel_rfl

structure Parts (b : Nat) (s1 : St) (c : Nat) (s2 : St) (m : Nat) (s3 : St) : Prop where
  room : ev ctx2 3000 (.call 5 [.snil] s0) = .ok (.en (.returned (.tuple [.ptr b 0, .bool true])) s1)
  new : ev ctx2 3000 (.call 6 [.ptr b 0] s1) = .ok (.en (.returned (.tuple [.ptr c 0, .int .i64 0])) s2)
  shell : ∃ r q e md, s2.heap.get c = some (.cells [.ptr r q, .map (some m), .int .i64 0] e none md)
  vars : ∃ clk, s2.heap.get m = some (.map [] clk)
  stats : ∃ l, ev ctx2 3000 (.call 13 [.ptr b 0] (s2.drop m)) = .ok (.en (.returned (.agg (.int .i64 0 :: l))) s3)

theorem parts : ∃ b s1 c s2 m s3, Parts b s1 c s2 m s3 := by
  have h := chk_true
  unfold chk at h
  obtain ⟨u, h⟩ := Option.isSome_iff_exists.1 h
  obtain ⟨p1, e1, h⟩ := Option.bind_eq_some_iff.1 h
  obtain ⟨b, eb, h⟩ := Option.bind_eq_some_iff.1 h
  obtain ⟨p2, e2, h⟩ := Option.bind_eq_some_iff.1 h
  obtain ⟨c, ec, h⟩ := Option.bind_eq_some_iff.1 h
  obtain ⟨ao, ea, h⟩ := Option.bind_eq_some_iff.1 h
  obtain ⟨m, em, h⟩ := Option.bind_eq_some_iff.1 h
  obtain ⟨mo, eo, h⟩ := Option.bind_eq_some_iff.1 h
  obtain ⟨_, ez, h⟩ := Option.bind_eq_some_iff.1 h
  obtain ⟨p3, e3, h⟩ := Option.bind_eq_some_iff.1 h
  have e1 := retOf_ok e1
  have e2 := retOf_ok e2
  have e3 := retOf_ok e3
  rw [evF_eq] at e1 e2 e3
  rw [roomV_ok eb] at e1
  rw [newV_ok ec] at e2
  obtain ⟨l, hl⟩ := statsV_ok h
  rw [hl] at e3
  obtain ⟨r, q, e, md, rfl⟩ := shellO_ok em
  obtain ⟨clk, rfl⟩ := emptyO_ok ez
  exact ⟨b, p1.2, c, p2.2, m, p3.2, e1, e2, ⟨r, q, e, md, ea⟩, ⟨clk, eo⟩, ⟨l, e3⟩⟩

theorem itoa_run : ∃ s, ev ctx2 3000 (.call 25 [.int .i64 0] s0) = .ok (.en (.returned (.str [48])) s) := by
  have h : (match retOf (evF ctx2 3000 (.call 25 [.int .i64 0] s0)) with | some (.str [48], _) => true | _ => false) = true := by kernel_rfl
  split at h
  · rename_i s hr
    have := retOf_ok hr
    rw [evF_eq] at this
    exact ⟨s, this⟩
  · cases h

/-! from a run to a contract, in any memory that holds what the run was given -/
section
variable {P : Program} {C : Ctx}
theorem calls_gen (hC : CtxOK P C) (hH : Hooks P C) {F : Fr} {E : Blk} {W : World} {n f : Nat} {args : List AV} {xs : Array Value} {s s' : St} {v : AV} (hp : Pre C F E s W) (hx : Rels E args xs.toList)
    (h : ev C n (.call f args s) = .ok (.en (.returned v) s')) : Calls P f xs W (fun e W' => ∃ E' x, e = .returned x ∧ Rel E' v x ∧ Stp F E s E' s' W') := by
  have hs : Snd P C (.call f args s) (.en (.returned v) s') := sound hC hH n _ _ h
  refine hs F E W xs _ hp hx fun E' e' w' he hst => ?_
  cases he with
  | returned hv => exact ⟨E', _, rfl, hv, hst⟩
theorem pre_next {F : Fr} {E E' : Blk} {s s' : St} {W W' : World} (hp : Pre C F E s W) (hst : Stp F E s E' s' W') : Pre C F E' s' W' := ⟨hst.free, hst.inv, hp.globs.mono (le_of_old hp.free hst.old)⟩
theorem pre_start (W : World) : Pre ctx2 ⟨W, fun _ => False⟩ (startE 14 0 0) s0 W :=
  ⟨startE_free, ⟨rfl, rfl, rfl, Nat.le_refl _, fun _ _ _ => rfl, fun b ao h => (by simp [s0, Tr.get] at h), fun b ao c κ h => (by simp [s0, Tr.get] at h), fun b b' ao ao' c κ κ' h => (by simp [s0, Tr.get] at h)⟩, startE_globs (C := ctx2)⟩
end

/-- nothing of what was there has turned -/
abbrev Fr0 (W : World) : Fr := ⟨W, fun _ => False⟩
theorem pre_below {W w : World} {E : Blk} {s : St} (hp : Pre ctx2 (Fr0 W) E s w) : Below W.heap.size W w :=
  ⟨hp.inv.os, hp.inv.tape, hp.inv.out, hp.inv.size, fun k hk => hp.inv.frame k hk (fun h => h)⟩

variable {b : Nat} {s1 : St} {c : Nat} {s2 : St} {m : Nat} {s3 : St}

theorem room_ok (H : Parts b s1 c s2 m s3) (W : World) : Calls Tryz.prog 5 #[.slice none 0 0] W fun e w => ∃ E cb κ, e = .returned (.tuple #[.pointer (some ⟨cb, 0, none⟩), .bool true]) ∧ E b = some (cb, κ) ∧ Pre ctx2 (Fr0 W) E s1 w := by
  refine (calls_gen ctx2_ok hooks2 (pre_start W) (xs := #[.slice none 0 0]) (.cons .snil .nil) H.room).mono ?_
  rintro e w ⟨E, x, rfl, hv, hst⟩
  cases hv with
  | tuple h => cases h with
    | cons h1 t => cases t with
      | cons h2 t => cases t with
        | nil => cases h1 with
          | ptr o hE => cases h2 with
            | bool q => exact ⟨E, _, _, rfl, hE, pre_next (pre_start W) hst⟩

theorem new_ok (H : Parts b s1 c s2 m s3) {W w : World} {E : Blk} {cb κ : Nat} (hE : E b = some (cb, κ)) (hp : Pre ctx2 (Fr0 W) E s1 w) :
    Calls Tryz.prog 6 #[.pointer (some ⟨cb, 0, none⟩)] w fun e w' => ∃ E' cc κ', e = .returned (.tuple #[.pointer (some ⟨cc, 0, none⟩), .int .i64 0]) ∧ E' b = some (cb, κ) ∧ E' c = some (cc, κ') ∧ Pre ctx2 (Fr0 W) E' s2 w' := by
  refine (calls_gen ctx2_ok hooks2 hp (xs := #[.pointer (some ⟨cb, 0, none⟩)]) (.cons (.ptr 0 hE) .nil) H.new).mono ?_
  rintro e w' ⟨E', x, rfl, hv, hst⟩
  cases hv with
  | tuple h => cases h with
    | cons h1 t => cases t with
      | cons h2 t => cases t with
        | nil => cases h1 with
          | ptr o hE' => cases h2 with
            | int k n => exact ⟨E', _, _, rfl, (le_of_old hp.free hst.old) _ _ hE, hE', pre_next hp hst⟩

/-- the shell's cells, and its map -/
theorem shell_is (H : Parts b s1 c s2 m s3) {W w : World} {E : Blk} {cc κ : Nat} (hE : E c = some (cc, κ)) (hp : Pre ctx2 (Fr0 W) E s2 w) :
    ∃ cm κm, E m = some (cm, κm) ∧ W.heap.size ≤ cm ∧ MapIs w cm [] ∧ w.cell? ⟨cc, 1, none⟩ = some (.map (some cm)) ∧ w.cell? ⟨cc, 2, none⟩ = some (.int .i64 0) ∧ cc ≠ cm := by
  obtain ⟨r, q, e, md, hs⟩ := H.shell
  obtain ⟨clk, hm⟩ := H.vars
  obtain ⟨cc', κ', o, h1, h2, h3⟩ := hp.inv.obj _ _ hs
  rw [hE] at h1
  cases h1
  obtain ⟨ys, zs, lo, hi, rfl, hr, hz, _, _⟩ := h3
  have hz := hz rfl
  subst hz
  cases hr with
  | cons r1 t => cases t with
    | cons r2 t => cases t with
      | cons r3 t => cases t with
        | nil => cases r2 with
          | @map _ cm κm hEm => cases r3 with
            | int k n =>
              obtain ⟨cm', κm', o, g1, g2, xs, rfl, g3⟩ := hp.inv.obj _ _ hm
              rw [hEm] at g1
              cases g1
              have hxs : xs = #[] := by
                have : xs.toList = [] := by
                  generalize xs.toList = l at g3
                  cases g3; rfl
                simpa using this
              subst hxs
              have hown := (hp.inv.own m _ cm κm hm rfl hEm).resolve_right (fun h => h)
              refine ⟨cm, κm, hEm, hown, ⟨.map [], ⟨#[], clk, g2, ⟨by simp, ⟨by simp, by simp, by simp⟩, by simp⟩, by simp, rfl⟩, ties_nil⟩, ?_, ?_, ?_⟩
              · simp [World.cell?, h2]
              · simp [World.cell?, h2]
              · rintro rfl
                rw [h2] at g2
                cases g2

/-- how many calls a shell's system has seen, behind whatever was done to the shell's map -/
theorem stats_ok (H : Parts b s1 c s2 m s3) {W w w' : World} {E : Blk} {cb κ cm κm : Nat} (hE : E b = some (cb, κ)) (hm : E m = some (cm, κm)) (hp : Pre ctx2 (Fr0 W) E s2 w) (hg : w.grownBy w' (some cm)) (hcm : W.heap.size ≤ cm) :
    Calls Tryz.prog 13 #[.pointer (some ⟨cb, 0, none⟩)] w' fun e w'' => ∃ l : List Value, e = .returned (.agg ⟨.int .i64 0 :: l⟩) ∧ Below W.heap.size W w'' := by
  obtain ⟨l, hr⟩ := H.stats
  obtain ⟨clk, hmo⟩ := H.vars
  have hget : ∀ k ao, (s2.drop m).heap.get k = some ao → s2.heap.get k = some ao ∧ k ≠ m := fun k ao h => (put_none h).symm
  have hp' : Pre ctx2 (Fr0 W) E (s2.drop m) w' := by
    refine ⟨hp.free, ⟨hg.tape.trans hp.inv.tape, hg.os.trans hp.inv.os, hg.output.trans hp.inv.out, Nat.le_trans hp.inv.size hg.size, fun k hk hS => ?_, fun k ao h => ?_, fun k ao c κ h => ?_, fun k k' ao ao' c κ κ' h h' => ?_⟩, hp.globs⟩
    · refine (hg.block k (Nat.lt_of_lt_of_le hk hp.inv.size) (fun e => ?_)).trans (hp.inv.frame k hk hS)
      have e : k = cm := Option.some.inj e
      have hk : k < W.heap.size := hk
      omega
    · obtain ⟨h1, hne⟩ := hget k ao h
      obtain ⟨c', κ', o, g1, g2, g3⟩ := hp.inv.obj k ao h1
      refine ⟨c', κ', o, g1, (hg.block c' (size_of_get g2) (fun e => hne ?_)).trans g2, g3⟩
      cases e
      exact hp.inv.inj k m ao _ _ _ _ h1 hmo g1 hm
    · exact hp.inv.own k ao c κ (hget k ao h).1
    · exact hp.inv.inj k k' ao ao' c κ κ' (hget k ao h).1 (hget k' ao' h').1
  refine (calls_gen ctx2_ok hooks2 hp' (xs := #[.pointer (some ⟨cb, 0, none⟩)]) (.cons (.ptr 0 hE) .nil) hr).mono ?_
  rintro e w'' ⟨E', x, rfl, hv, hst⟩
  cases hv with
  | agg h => cases h with
    | cons h1 t => cases h1 with
      | int k n => exact ⟨_, rfl, pre_below (pre_next hp' hst)⟩

theorem itoa_ok (w : World) : Calls Tryz.prog 25 #[.int .i64 0] w fun e w' => e = .returned (.string ⟨#[48]⟩) ∧ w.grownBy w' none := by
  obtain ⟨s, hr⟩ := itoa_run
  refine (calls_gen ctx2_ok hooks2 (pre_start w) (xs := #[.int .i64 0]) (.cons (.int _ _) .nil) hr).mono ?_
  rintro e w' ⟨E', x, rfl, hv, hst⟩
  cases hv with
  | str l => exact ⟨rfl, hst.inv.os, hst.inv.tape, hst.inv.out, hst.inv.size, fun k hk _ => hst.inv.frame k hk (fun h => h)⟩
end Go.Proofs.YtiocolgkkdfokaaGreatDoor
