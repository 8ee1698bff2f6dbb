/-
  ShellNothing: from the walk to the row's form: whatever the line, the input and the name, the call returns true and its arguments read as they read. No condition.
-/
import Derived.Test.YtiocolgkkdfokaaGreatDoorWalk
import Derived.Test.YtiocolgkkdfokaaGreatDoorAlive
import Derived.Test.YtiocolgkkdfokaaGreatDoorFacts
import Derived.Clock
import Derived.Conc.HoldsTime
import Derived.Lay
import Derived.LaidMore
import Derived.MakeChecks
import Derived.Leaving
set_option maxRecDepth 100000
namespace Go.Proofs.YtiocolgkkdfokaaGreatDoor
open Go.ChangeShapes Go.WideShapes Go.ChangeAt Go.RowKit Go.Clock

theorem leaving_of_alone {P : Program} {m : Machine} {w : World} {t : Trace} (h : aloneAtReturn P m w t) : leavingAtReturn P m w t := by
  obtain ⟨⟨h1, h2⟩, h3, h4⟩ := h
  refine ⟨h3, ⟨fun g hg => ?_, h2⟩, h4⟩
  have := List.all_eq_true.1 h1 g hg
  exact Leave.done P g (by simpa using this)

theorem trodAll_stays {P : Program} (hl : laidOutB P = true) {H : Type} {enc : TypeId × Value → H} {W W' : World} (hb : Below W.heap.size W W') :
    ∀ {ts : List TypeId} {vs : List Value} {ds : List (DataW H)} {ps : List MemPlace}, (ts.all fun t => P.readableRec t && decide (t < P.types.size)) = true →
      DataW.TrodAll enc P W 0 (fun _ => true) true ts vs ds ps → (∀ x ∈ ps, x.block < W.heap.size) → DataW.TrodAll enc P W' 0 (fun b => decide (b < W.heap.size)) true ts vs ds ps
  | [], [], [], _, _, h, _ => h
  | t :: ts, v :: vs, d :: ds, ps, ht, h, hlt => by
    obtain ⟨p, q, h1, h2, rfl⟩ := h
    simp only [List.all_cons, Bool.and_eq_true, decide_eq_true_eq] at ht
    exact ⟨p, q, Below.trod hl ht.1.1 ht.1.2 h1 hb (fun x hx => hlt x (by simp [hx])), trodAll_stays hl hb (by simpa using ht.2) h2 (fun x hx => hlt x (by simp [hx])), rfl⟩
  | [], _ :: _, _, _, _, h, _ => by simp [DataW.TrodAll] at h
  | [], [], _ :: _, _, _, h, _ => by simp [DataW.TrodAll] at h
  | _ :: _, [], _, _, _, h, _ => by simp [DataW.TrodAll] at h
  | _ :: _, _ :: _, [], _, _, h, _ => by simp [DataW.TrodAll] at h

theorem cells5 : Tryz.prog.cellsOf 5 = 1 := by kernel_rfl
theorem bytes5 : Tryz.prog.bytesOf 5 = 1 := by kernel_rfl
theorem own : ownKnob Tryz.prog.godebug = none := by kernel_rfl
theorem noInit : Tryz.checked.prog.inits.idxOf? 4 = none := by kernel_rfl
theorem params_read : (Tryz.f4.params.toList.all fun t => Tryz.prog.readableRec t && decide (t < Tryz.prog.types.size)) = true := by kernel_rfl
theorem plainLaid : (Rows.shellNothingRow.laid.all fun x => x.2.handleName?.isNone) = true := by kernel_rfl

abbrev laid : List (String × DataW Unit) := Rows.shellNothingRow.laid
abbrev wargs : Array Value := #[.string "".toUTF8, .slice none 0 0, .string "".toUTF8]
theorem wit1 (os : Os) : ((World.laidAll Tryz.prog os laid).forCall (fun _ _ => 0) ⟨#[], wargs, []⟩).variablesZipB Tryz.prog = true := by kernel_rfl
theorem wit2 (os : Os) : (((World.laidAll Tryz.prog os laid).forCall (fun _ _ => 0) ⟨#[], wargs, []⟩).heap.toList.drop Tryz.prog.globals.size).take ((begin Tryz.prog (fun _ _ => 0) default).world.heap.size - Tryz.prog.globals.size) =
      (begin Tryz.prog (fun _ _ => 0) default).world.heap.toList.drop Tryz.prog.globals.size := by kernel_rfl
theorem wit3 (os : Os) : Input.okWideB Tryz.prog ((World.laidAll Tryz.prog os laid).forCall (fun _ _ => 0) ⟨#[], wargs, []⟩) 4 ⟨#[], wargs, []⟩ = true := by kernel_rfl
theorem wit4 (os : Os) (H : Type) (enc : TypeId × Value → H) : Rows.shellNothingSpec.preB enc Tryz.prog Tryz.f4 [] false ((World.laidAll Tryz.prog os laid).forCall (fun _ _ => 0) ⟨#[], wargs, []⟩).memory wargs 8 = true := by kernel_rfl
theorem wit5 (os : Os) (H : Type) (enc : TypeId × Value → H) : Rows.shellNothingSpec.sizedB enc Tryz.prog Tryz.f4 false ((World.laidAll Tryz.prog os laid).forCall (fun _ _ => 0) ⟨#[], wargs, []⟩).memory wargs 8 = true := by kernel_rfl
theorem wit6 (os : Os) : (World.holding Tryz.prog os ⟨#[], #[], []⟩).layFits Tryz.prog laid [] = true := by kernel_rfl
theorem wit7 (os : Os) : (World.holding Tryz.prog os ⟨#[], #[], []⟩).layIfaces Tryz.prog laid (World.laidAll Tryz.prog os laid) = true := by kernel_rfl

set_option maxRecDepth 100000 in
theorem handed (os : Os) (started : os.Started) (H : Type) (enc : TypeId × Value → H) (F : Stop.Interp) :
    ReturnsInHanded { calm := true } Tryz.checked os 4 .any (fun w args => (Rows.shellNothingSpec.pre enc Tryz.prog Tryz.f4 [] false w args ∧ laidMetH Tryz.prog laid w) ∧ sizedMet enc Tryz.prog Tryz.f4 (OpenSpec.ofChange Rows.shellNothingSpec) false w args)
      ((OpenSpec.ofChange Rows.shellNothingSpec).postWith enc Tryz.prog Tryz.f4 F (outsideKept [.timePasses]) false true false) := by
  refine returns_of_change (C := Tryz.checked) (X := fun w _ => laidMetH Tryz.prog laid w) (fun _ _ _ hh h => h.of_heap hh) own started noInit Tryz.func4
    (witness_at (enc := enc) (C := Tryz.checked) (X := fun w _ => laidMetH Tryz.prog laid w) (World.laidAll Tryz.prog os laid) wargs 8 (World.laidAll_os _ _ _) (World.shaped_of_ZipB (wit1 os) (wit2 os)) (wit3 os) (wit4 os H enc) (wit5 os H enc)
      (by rw [MakeChecks.laidMetH_plain _ _ _ plainLaid]; exact laidMet_laidAll _ (wit6 os) (wit7 os))) ?_
  intro W base args ds gs before hval0 hW _ hz hL _
  have hval : ∀ (j : Nat) t v, Tryz.f4.params[j]? = some t → args[j]? = some v → Value.okWide Tryz.prog W .any base t v := hval0
  have hW' := hW
  have hlt : ∀ x ∈ before, x.block < W.heap.size := fun x hx => hW.lt x hx
  obtain ⟨p, q, hA0, hV, rfl, _, _⟩ := hW
  have hA : DataW.TrodAll enc Tryz.prog W 0 (fun _ => true) true Tryz.f4.params.toList args.toList ds p := hA0
  have hA1 := hA
  have hz1 := hz
  rw [Tryz.params4] at hA hval
  obtain ⟨v0, v1, v2, d0, d1, d2, p0, p1, p2, rfl, rfl, rfl, h0, h1, h2⟩ := trodAll_three hA
  obtain ⟨rfl, rfl⟩ := trodVars_none hV
  obtain ⟨a1, len, cap, rfl⟩ := okWide_slice Tryz.underlying51 (hval 1 51 v1 rfl rfl)
  have alive := alive_ok hL
  have fin : Calls Tryz.prog 4 #[v0, .slice a1 len cap, v2] W fun e w' => e = .returned (.bool true) ∧ Below W.heap.size W w' := by
    obtain ⟨fuel, hf⟩ := h1
    rcases open_ints Tryz.underlying51 Tryz.underlying5 cells5 hf with ⟨hcs, hx⟩ | ⟨a, len', cap', zs, hcs, _, hl, hm, hzl, hx, hcell, _⟩
    · simp only [Value.cells, List.cons.injEq, Value.slice.injEq, and_true] at hcs
      obtain ⟨rfl, rfl, rfl⟩ := hcs
      exact law_nothing v0 (.slice none 0 0) v2 W (twin_nil W) alive
    · simp only [Value.cells, List.cons.injEq, Value.slice.injEq, and_true] at hcs
      obtain ⟨rfl, rfl, rfl⟩ := hcs
      simp only [if_true] at hzl
      have hd1 : d1 = .slice (lits .u8 (zs.take len)) (lits .u8 (zs.drop len)) := (Prod.mk.inj hx).1
      have hn : len ≤ 140737488355328 := by
        have hw := sized_slice (P := Tryz.prog) (ts := Tryz.f4.params.toList ++ Rows.shellNothingSpec.plain.varTypes Tryz.prog) (ds := [d0, d1, d2] ++ []) (j := 1) (t := 51) (e := 5) (elems := lits .u8 (zs.take len)) (spare := lits .u8 (zs.drop len)) hz1 (by rw [Tryz.params4]; rfl) (by rw [hd1]; rfl) Tryz.underlying51
        rw [bytes5] at hw
        simp only [lits, List.length_map, List.length_take, List.length_drop, reachBytes] at hw
        omega
      have hcells : ∀ j v, ((zs.take len).map fun z => Value.int .u8 z)[j]? = some v → W.cell? (a.add j) = some v := fun j v hj => by
        have hjl : j < len := by
          have := (List.getElem?_eq_some_iff.1 hj).1
          simp at this; omega
        have := hcell j (by omega)
        rw [List.getElem?_map, List.getElem?_take_of_lt hjl] at hj
        obtain ⟨z, hz1, hz2⟩ := Option.map_eq_some_iff.1 hj
        rw [this, ← hz2, List.getD, hz1]; rfl
      have hones : ∀ u ∈ ((zs.take len).map fun z => Value.int .u8 z), u.oneCell' = true := fun u hu => by
        obtain ⟨z, _, rfl⟩ := List.mem_map.1 hu
        rfl
      exact law_nothing v0 (.slice (some a) len cap) v2 W (twin_some a len cap _ W (by simp; omega) hcells hones hn) alive
  refine fin.mono fun e W' ⟨he, hb⟩ => ?_
  subst he
  have hb2 : Below W.heap.size W { W' with os := W.os } := ⟨rfl, hb.tape, hb.output, hb.size, hb.block⟩
  refine ⟨_, rfl, ⟨_, _, _, [], p0 ++ p1 ++ p2, [], hW', trodAll_mk1 (shut_bool Tryz.underlying4 _), trodAll_stays laidOut hb2 params_read hA1 (fun x hx => hlt x (by simpa using hx)), rfl, hb2.frame _, fun h => by cases h⟩, ?_⟩
  rw [hb.os]
  exact Later.refl _

theorem lifted (os : Os) (started : os.Started) (H : Type) (enc : TypeId × Value → H) (F : Stop.Interp) :
    ReturnsInLeavingWide { calm := true } Tryz.checked os 4 .any (fun w args => (Rows.shellNothingSpec.pre enc Tryz.prog Tryz.f4 [] false w args ∧ laidMetH Tryz.prog laid w) ∧ sizedMet enc Tryz.prog Tryz.f4 (OpenSpec.ofChange Rows.shellNothingSpec) false w args)
      ((OpenSpec.ofChange Rows.shellNothingSpec).postWith enc Tryz.prog Tryz.f4 F (outsideKept [.timePasses]) false true false) := fun enter =>
  ReturnsInOpen.mono (fun _ _ _ h => leaving_of_alone h) (fun _ h => h) (handed os started H enc F enter)

end Go.Proofs.YtiocolgkkdfokaaGreatDoor
