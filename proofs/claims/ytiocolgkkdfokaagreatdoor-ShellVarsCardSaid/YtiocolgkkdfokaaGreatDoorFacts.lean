/-
  Closed facts on all types of the program, asked in parts. No condition.
-/
import Derived.Test.YtiocolgkkdfokaaGreatDoorProg
import GoSem.ClaimDataLaid
import GoSem.ClaimJoined
import Derived.KernelRfl
set_option maxRecDepth 100000
namespace Go.Proofs.YtiocolgkkdfokaaGreatDoor
open Go
theorem all_of {f : Nat → Bool} {n : Nat} (h : ∀ t, t < n → f t = true) : (List.range n).all f = true := List.all_eq_true.2 fun t ht => h t (List.mem_range.1 ht)
theorem part_of {f : Nat → Bool} {a n : Nat} (h : (List.range' a n).all f = true) (t : Nat) (h1 : a ≤ t) (h2 : t < a + n) : f t = true := List.all_eq_true.1 h t (List.mem_range'_1.2 ⟨h1, h2⟩)
def rowedAt (P : Program) (t : Nat) : Bool := match P.underlying t with | some (.map _ e) => decide (e < P.types.size) | _ => true
theorem typesSize : Tryz.prog.types.size = 944 := by kernel_rfl
theorem lo0 : (List.range' 0 60).all (rowFine Tryz.prog) = true := by kernel_rfl
theorem lo60 : (List.range' 60 60).all (rowFine Tryz.prog) = true := by kernel_rfl
theorem lo120 : (List.range' 120 60).all (rowFine Tryz.prog) = true := by kernel_rfl
theorem lo180 : (List.range' 180 60).all (rowFine Tryz.prog) = true := by kernel_rfl
theorem lo240 : (List.range' 240 60).all (rowFine Tryz.prog) = true := by kernel_rfl
theorem lo300 : (List.range' 300 60).all (rowFine Tryz.prog) = true := by kernel_rfl
theorem lo360 : (List.range' 360 60).all (rowFine Tryz.prog) = true := by kernel_rfl
theorem lo420 : (List.range' 420 60).all (rowFine Tryz.prog) = true := by kernel_rfl
theorem lo480 : (List.range' 480 60).all (rowFine Tryz.prog) = true := by kernel_rfl
theorem lo540 : (List.range' 540 60).all (rowFine Tryz.prog) = true := by kernel_rfl
theorem lo600 : (List.range' 600 60).all (rowFine Tryz.prog) = true := by kernel_rfl
theorem lo660 : (List.range' 660 60).all (rowFine Tryz.prog) = true := by kernel_rfl
theorem lo720 : (List.range' 720 60).all (rowFine Tryz.prog) = true := by kernel_rfl
theorem lo780 : (List.range' 780 60).all (rowFine Tryz.prog) = true := by kernel_rfl
theorem lo840 : (List.range' 840 60).all (rowFine Tryz.prog) = true := by kernel_rfl
theorem lo900 : (List.range' 900 44).all (rowFine Tryz.prog) = true := by kernel_rfl
theorem lo_all : (List.range 944).all (rowFine Tryz.prog) = true := by
  refine all_of fun t ht => ?_
  rcases Nat.lt_or_ge t 60 with h | h0
  · exact part_of lo0 t (by omega) (by omega)
  rcases Nat.lt_or_ge t 120 with h | h60
  · exact part_of lo60 t (by omega) (by omega)
  rcases Nat.lt_or_ge t 180 with h | h120
  · exact part_of lo120 t (by omega) (by omega)
  rcases Nat.lt_or_ge t 240 with h | h180
  · exact part_of lo180 t (by omega) (by omega)
  rcases Nat.lt_or_ge t 300 with h | h240
  · exact part_of lo240 t (by omega) (by omega)
  rcases Nat.lt_or_ge t 360 with h | h300
  · exact part_of lo300 t (by omega) (by omega)
  rcases Nat.lt_or_ge t 420 with h | h360
  · exact part_of lo360 t (by omega) (by omega)
  rcases Nat.lt_or_ge t 480 with h | h420
  · exact part_of lo420 t (by omega) (by omega)
  rcases Nat.lt_or_ge t 540 with h | h480
  · exact part_of lo480 t (by omega) (by omega)
  rcases Nat.lt_or_ge t 600 with h | h540
  · exact part_of lo540 t (by omega) (by omega)
  rcases Nat.lt_or_ge t 660 with h | h600
  · exact part_of lo600 t (by omega) (by omega)
  rcases Nat.lt_or_ge t 720 with h | h660
  · exact part_of lo660 t (by omega) (by omega)
  rcases Nat.lt_or_ge t 780 with h | h720
  · exact part_of lo720 t (by omega) (by omega)
  rcases Nat.lt_or_ge t 840 with h | h780
  · exact part_of lo780 t (by omega) (by omega)
  rcases Nat.lt_or_ge t 900 with h | h840
  · exact part_of lo840 t (by omega) (by omega)
  rcases Nat.lt_or_ge t 944 with h | h900
  · exact part_of lo900 t (by omega) (by omega)
  omega
theorem mr0 : (List.range' 0 60).all (rowedAt Tryz.prog) = true := by kernel_rfl
theorem mr60 : (List.range' 60 60).all (rowedAt Tryz.prog) = true := by kernel_rfl
theorem mr120 : (List.range' 120 60).all (rowedAt Tryz.prog) = true := by kernel_rfl
theorem mr180 : (List.range' 180 60).all (rowedAt Tryz.prog) = true := by kernel_rfl
theorem mr240 : (List.range' 240 60).all (rowedAt Tryz.prog) = true := by kernel_rfl
theorem mr300 : (List.range' 300 60).all (rowedAt Tryz.prog) = true := by kernel_rfl
theorem mr360 : (List.range' 360 60).all (rowedAt Tryz.prog) = true := by kernel_rfl
theorem mr420 : (List.range' 420 60).all (rowedAt Tryz.prog) = true := by kernel_rfl
theorem mr480 : (List.range' 480 60).all (rowedAt Tryz.prog) = true := by kernel_rfl
theorem mr540 : (List.range' 540 60).all (rowedAt Tryz.prog) = true := by kernel_rfl
theorem mr600 : (List.range' 600 60).all (rowedAt Tryz.prog) = true := by kernel_rfl
theorem mr660 : (List.range' 660 60).all (rowedAt Tryz.prog) = true := by kernel_rfl
theorem mr720 : (List.range' 720 60).all (rowedAt Tryz.prog) = true := by kernel_rfl
theorem mr780 : (List.range' 780 60).all (rowedAt Tryz.prog) = true := by kernel_rfl
theorem mr840 : (List.range' 840 60).all (rowedAt Tryz.prog) = true := by kernel_rfl
theorem mr900 : (List.range' 900 44).all (rowedAt Tryz.prog) = true := by kernel_rfl
theorem mr_all : (List.range 944).all (rowedAt Tryz.prog) = true := by
  refine all_of fun t ht => ?_
  rcases Nat.lt_or_ge t 60 with h | h0
  · exact part_of mr0 t (by omega) (by omega)
  rcases Nat.lt_or_ge t 120 with h | h60
  · exact part_of mr60 t (by omega) (by omega)
  rcases Nat.lt_or_ge t 180 with h | h120
  · exact part_of mr120 t (by omega) (by omega)
  rcases Nat.lt_or_ge t 240 with h | h180
  · exact part_of mr180 t (by omega) (by omega)
  rcases Nat.lt_or_ge t 300 with h | h240
  · exact part_of mr240 t (by omega) (by omega)
  rcases Nat.lt_or_ge t 360 with h | h300
  · exact part_of mr300 t (by omega) (by omega)
  rcases Nat.lt_or_ge t 420 with h | h360
  · exact part_of mr360 t (by omega) (by omega)
  rcases Nat.lt_or_ge t 480 with h | h420
  · exact part_of mr420 t (by omega) (by omega)
  rcases Nat.lt_or_ge t 540 with h | h480
  · exact part_of mr480 t (by omega) (by omega)
  rcases Nat.lt_or_ge t 600 with h | h540
  · exact part_of mr540 t (by omega) (by omega)
  rcases Nat.lt_or_ge t 660 with h | h600
  · exact part_of mr600 t (by omega) (by omega)
  rcases Nat.lt_or_ge t 720 with h | h660
  · exact part_of mr660 t (by omega) (by omega)
  rcases Nat.lt_or_ge t 780 with h | h720
  · exact part_of mr720 t (by omega) (by omega)
  rcases Nat.lt_or_ge t 840 with h | h780
  · exact part_of mr780 t (by omega) (by omega)
  rcases Nat.lt_or_ge t 900 with h | h840
  · exact part_of mr840 t (by omega) (by omega)
  rcases Nat.lt_or_ge t 944 with h | h900
  · exact part_of mr900 t (by omega) (by omega)
  omega
theorem globFine : (Tryz.prog.globals.all fun g => decide (g.type < Tryz.prog.types.size)) = true := by kernel_rfl
theorem paramFine : (Tryz.prog.funcs.all fun f => f.params.all fun t => decide (t < Tryz.prog.types.size)) = true := by kernel_rfl
theorem laidOut : laidOutB Tryz.prog = true := by
  unfold laidOutB
  rw [globFine, paramFine, typesSize, lo_all]; rfl
theorem mapsRow : mapsRowed Tryz.prog = true := by
  show (List.range Tryz.prog.types.size).all (rowedAt Tryz.prog) = true
  rw [typesSize, mr_all]
end Go.Proofs.YtiocolgkkdfokaaGreatDoor
