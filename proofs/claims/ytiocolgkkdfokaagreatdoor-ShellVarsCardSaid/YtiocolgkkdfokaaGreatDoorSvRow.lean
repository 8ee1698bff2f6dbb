/-
  ShellVars: from the walk to the row's form: whatever the variables and the name, the call returns true and its arguments read as they read. No condition.
-/
import Derived.Test.YtiocolgkkdfokaaGreatDoorSvL
import Derived.Test.YtiocolgkkdfokaaGreatDoorRow
import Derived.Deep.SlicePairs
import Derived.ChangeMaps5
set_option maxRecDepth 100000
namespace Go.Proofs.YtiocolgkkdfokaaGreatDoor
open Go.ChangeShapes Go.WideShapes Go.ChangeAt Go.RowKit Go.Clock Go.Deep

theorem cellsVar : Tryz.prog.cellsOf 39 = 2 := by kernel_rfl
theorem cellsStr : Tryz.prog.cellsOf 9 = 1 := by kernel_rfl
theorem noInitV : Tryz.checked.prog.inits.idxOf? 3 = none := by kernel_rfl
theorem params_readV : (Tryz.f3.params.toList.all fun t => Tryz.prog.readableRec t && decide (t < Tryz.prog.types.size)) = true := by kernel_rfl
theorem plainLaidV : (Rows.shellVarsRow.laid.all fun x => x.2.handleName?.isNone) = true := by kernel_rfl

abbrev laidV : List (String × DataW Unit) := Rows.shellVarsRow.laid
abbrev vargs : Array Value := #[.slice none 0 0, .string "".toUTF8]
theorem vit1 (os : Os) : ((World.laidAll Tryz.prog os laidV).forCall (fun _ _ => 0) ⟨#[], vargs, []⟩).variablesZipB Tryz.prog = true := by kernel_rfl
theorem vit2 (os : Os) : (((World.laidAll Tryz.prog os laidV).forCall (fun _ _ => 0) ⟨#[], vargs, []⟩).heap.toList.drop Tryz.prog.globals.size).take ((begin Tryz.prog (fun _ _ => 0) default).world.heap.size - Tryz.prog.globals.size) =
      (begin Tryz.prog (fun _ _ => 0) default).world.heap.toList.drop Tryz.prog.globals.size := by kernel_rfl
theorem vit3 (os : Os) : Input.okWideB Tryz.prog ((World.laidAll Tryz.prog os laidV).forCall (fun _ _ => 0) ⟨#[], vargs, []⟩) 3 ⟨#[], vargs, []⟩ = true := by kernel_rfl
theorem vit4 (os : Os) (H : Type) (enc : TypeId × Value → H) : Rows.shellVarsSpec.preB enc Tryz.prog Tryz.f3 [] false ((World.laidAll Tryz.prog os laidV).forCall (fun _ _ => 0) ⟨#[], vargs, []⟩).memory vargs 8 = true := by kernel_rfl
theorem vit5 (os : Os) (H : Type) (enc : TypeId × Value → H) : Rows.shellVarsSpec.sizedB enc Tryz.prog Tryz.f3 false ((World.laidAll Tryz.prog os laidV).forCall (fun _ _ => 0) ⟨#[], vargs, []⟩).memory vargs 8 = true := by kernel_rfl
theorem vit6 (os : Os) : (World.holding Tryz.prog os ⟨#[], #[], []⟩).layFits Tryz.prog laidV [] = true := by kernel_rfl
theorem vit7 (os : Os) : (World.holding Tryz.prog os ⟨#[], #[], []⟩).layIfaces Tryz.prog laidV (World.laidAll Tryz.prog os laidV) = true := by kernel_rfl
theorem laid_same : laidV = laid := by kernel_rfl

theorem str_toArray (s : ByteArray) : (⟨s.data.toList.toArray⟩ : ByteArray) = s := by cases s; simp
theorem size_list (s : ByteArray) : s.data.toList.length = s.size := Array.length_toList

set_option maxRecDepth 100000 in
theorem handedV (os : Os) (started : os.Started) (H : Type) (enc : TypeId × Value → H) (F : Stop.Interp) :
    ReturnsInHanded { calm := true } Tryz.checked os 3 .any (fun w args => (Rows.shellVarsSpec.pre enc Tryz.prog Tryz.f3 [] false w args ∧ laidMetH Tryz.prog laidV w) ∧ sizedMet enc Tryz.prog Tryz.f3 (OpenSpec.ofChange Rows.shellVarsSpec) false w args)
      ((OpenSpec.ofChange Rows.shellVarsSpec).postWith enc Tryz.prog Tryz.f3 F (outsideKept [.timePasses]) false true false) := by
  refine returns_of_change (C := Tryz.checked) (X := fun w _ => laidMetH Tryz.prog laidV w) (fun _ _ _ hh h => h.of_heap hh) own started noInitV Tryz.func3
    (witness_at (enc := enc) (C := Tryz.checked) (X := fun w _ => laidMetH Tryz.prog laidV w) (World.laidAll Tryz.prog os laidV) vargs 8 (World.laidAll_os _ _ _) (World.shaped_of_ZipB (vit1 os) (vit2 os)) (vit3 os) (vit4 os H enc) (vit5 os H enc)
      (by rw [MakeChecks.laidMetH_plain _ _ _ plainLaidV]; exact laidMet_laidAll _ (vit6 os) (vit7 os))) ?_
  intro W base args ds gs before hval0 hW _ hz hL _
  have hval : ∀ (j : Nat) t v, Tryz.f3.params[j]? = some t → args[j]? = some v → Value.okWide Tryz.prog W .any base t v := hval0
  have hW' := hW
  have hlt : ∀ x ∈ before, x.block < W.heap.size := fun x hx => hW.lt x hx
  obtain ⟨p, q, hA0, hV, rfl, _, _⟩ := hW
  have hA : DataW.TrodAll enc Tryz.prog W 0 (fun _ => true) true Tryz.f3.params.toList args.toList ds p := hA0
  have hA1 := hA
  rw [Tryz.params3] at hA hval
  obtain ⟨v0, v1, d0, d1, p0, p1, rfl, rfl, rfl, h0, h1⟩ := trodAll_two hA
  obtain ⟨rfl, rfl⟩ := trodVars_none hV
  obtain ⟨a1, len, cap, rfl⟩ := okWide_slice Tryz.underlying22 (hval 0 22 v0 rfl rfl)
  have hL2 : laidMetH Tryz.prog laid W := laid_same ▸ hL
  have alive := alive_ok hL2
  obtain ⟨b, s1, c, s2, m, s3, HP⟩ := parts
  obtain ⟨nm, rfl, rfl, rfl, hnm⟩ := ChangeMaps.open_string Tryz.underlying9 (hval 1 9 v1 rfl rfl) h1
  have fin : Calls Tryz.prog 3 #[.slice a1 len cap, .string nm] W fun e w' => e = .returned (.bool true) ∧ Below W.heap.size W w' := by
    obtain ⟨fuel, hf⟩ := h0
    rw [← str_toArray nm]
    have hnl : (nm.data.toList.length : Int) ≤ 9223372036854775807 := by
      have := size_list nm
      simp only [maxLen] at hnm; omega
    rcases open_slice_pairs Tryz.underlying22 Tryz.underlying39 cellsVar rfl rfl cellsStr cellsStr hf with ⟨hcs, _⟩ | ⟨a, len', cap', mm, n, V0, V1, D0, D1, P0, P1, hcs, _, hlc, hcm, hmm, _, hx⟩
    · simp only [Value.cells, List.cons.injEq, Value.slice.injEq, and_true] at hcs
      obtain ⟨rfl, rfl, rfl⟩ := hcs
      exact law_vars HP none ⟨0, 0, none⟩ 0 [] nm.data.toList W (fun h => absurd h (by simp)) rfl (by simp) (by simp) (by simp) hnl alive
    · simp only [Value.cells, List.cons.injEq, Value.slice.injEq, and_true] at hcs
      obtain ⟨rfl, rfl, rfl⟩ := hcs
      have hlm : len ≤ mm := by rw [hmm]; simp; omega
      have each : ∀ i, i < len → ∃ q : Pr, W.cell? (a.add (i * 2)) = some (.string ⟨q.1.toArray⟩) ∧ W.cell? (a.add (i * 2 + 1)) = some (.string ⟨q.2.toArray⟩) ∧ (q.1.length : Int) ≤ 9223372036854775807 ∧ (q.2.length : Int) ≤ 9223372036854775807 := fun i hi => by
        obtain ⟨g0, g1, g2, g3⟩ := hx i (by omega)
        obtain ⟨s0, e0, _, l0⟩ := DataW.trod_string Tryz.underlying9 g2
        obtain ⟨s1, e1, _, l1⟩ := DataW.trod_string Tryz.underlying9 g3
        simp only [List.cons.injEq, and_true] at e0 e1
        refine ⟨(s0.data.toList, s1.data.toList), ?_, ?_, ?_, ?_⟩
        · rw [g0, e0, str_toArray]
        · rw [g1, e1, str_toArray]
        · have := size_list s0
          simp only [maxLen] at l0; simp only; omega
        · have := size_list s1
          simp only [maxLen] at l1; simp only; omega
      obtain ⟨Q, hQ⟩ := choose_lt each
      exact law_vars HP (some a) a cap ((List.range len).map Q) nm.data.toList W (fun _ => rfl) (by simp) (by simp only [maxLen] at hcm; omega) (fun j q hj => by
          have hjl : j < len := by have := (List.getElem?_eq_some_iff.1 hj).1; simpa using this
          rw [List.getElem?_map, List.getElem?_range hjl] at hj
          cases hj
          exact ⟨(hQ j hjl).1, (hQ j hjl).2.1⟩) (fun q hq => by
          obtain ⟨i, hi, rfl⟩ := List.mem_map.1 hq
          exact (hQ i (List.mem_range.1 hi)).2.2) hnl alive
  refine fin.mono fun e W' ⟨he, hb⟩ => ?_
  subst he
  have hb2 : Below W.heap.size W { W' with os := W.os } := ⟨rfl, hb.tape, hb.output, hb.size, hb.block⟩
  refine ⟨_, rfl, ⟨_, _, _, [], p0 ++ [], [], hW', trodAll_mk1 (shut_bool Tryz.underlying4 _), trodAll_stays laidOut hb2 params_readV hA1 (fun x hx => hlt x (by simpa using hx)), rfl, hb2.frame _, fun h => by cases h⟩, ?_⟩
  rw [hb.os]
  exact Later.refl _

theorem liftedV (os : Os) (started : os.Started) (H : Type) (enc : TypeId × Value → H) (F : Stop.Interp) :
    ReturnsInLeavingWide { calm := true } Tryz.checked os 3 .any (fun w args => (Rows.shellVarsSpec.pre enc Tryz.prog Tryz.f3 [] false w args ∧ laidMetH Tryz.prog laidV w) ∧ sizedMet enc Tryz.prog Tryz.f3 (OpenSpec.ofChange Rows.shellVarsSpec) false w args)
      ((OpenSpec.ofChange Rows.shellVarsSpec).postWith enc Tryz.prog Tryz.f3 F (outsideKept [.timePasses]) false true false) := fun enter =>
  ReturnsInOpen.mono (fun _ _ _ h => leaving_of_alone h) (fun _ h => h) (handedV os started H enc F enter)

end Go.Proofs.YtiocolgkkdfokaaGreatDoor
