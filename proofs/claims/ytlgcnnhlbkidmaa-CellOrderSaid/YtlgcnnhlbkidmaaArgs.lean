/-
  Arguments that are structs of integers, read.
-/
import Derived.Test.YtlgcnnhlbkidmaaSub
import Derived.Deep.Slices
namespace Go.Proofs.Ytlgcnnhlbkidmaa
open Go.ChangeShapes Go.WideShapes Go.ChangeAt Go.RowKit

def In64 (z : Int) : Prop := -9223372036854775808 ≤ z ∧ z ≤ 9223372036854775807
theorem in64_of_wf {z : Int} (h : (Lit.int .i64 z).wf = true) : In64 z := by
  simp [Lit.wf] at h
  have q1 : IntKind.i64.min = -9223372036854775808 := rfl
  have q2 : IntKind.i64.max = 9223372036854775807 := rfl
  unfold In64
  omega

/-- The cells of a piece. -/
theorem piece {cs : List Value} (n k : Nat) {l : List Value} (h : (cs.drop n).take k = l) : cs.drop n = l ++ cs.drop (n + k) := by
  rw [← h, ← List.drop_drop, List.take_append_drop]

theorem cells_int : Try.prog.cellsOf 3 = 1 := by kernel_rfl
theorem cells_pin : Try.prog.cellsOf 39 = 2 := by kernel_rfl

theorem pin_of_trod {H : Type} {enc : TypeId × Value → H} {w : World} {base : Nat} {sp : Nat → Bool} {held : Bool} {fuel : Nat} {cs : List Value} {x : DataW H × List MemPlace}
    (h : DataW.trod enc Try.prog w base sp held fuel 39 cs = some x) : ∃ a b, In64 a ∧ In64 b ∧ cs = [.int .i64 a, .int .i64 b] := by
  obtain ⟨xs, n, _, _, hl, hxl, hf⟩ := DataW.trod_struct Try.underlying39 h
  have h0 := hf 0 _ rfl
  have h1 := hf 1 _ rfl
  rw [cells_pin] at hl
  match xs, hxl with
  | [x0, x1], _ =>
    obtain ⟨a, e0, _, w0⟩ := DataW.trod_int Try.underlying3 h0
    obtain ⟨b, e1, _, w1⟩ := DataW.trod_int Try.underlying3 h1
    refine ⟨a, b, in64_of_wf w0, in64_of_wf w1, ?_⟩
    have e0' : (cs.drop 0).take (Try.prog.cellsOf 3) = [.int .i64 a] := e0
    have e1' : (cs.drop 1).take (Try.prog.cellsOf 3) = [.int .i64 b] := e1
    rw [cells_int] at e0' e1'
    rw [show cs = cs.drop 0 by simp, piece 0 1 e0', piece 1 1 e1', List.drop_of_length_le (by omega)]
    rfl
end Go.Proofs.Ytlgcnnhlbkidmaa
