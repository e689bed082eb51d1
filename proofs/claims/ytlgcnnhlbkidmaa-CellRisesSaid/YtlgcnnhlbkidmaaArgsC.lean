/-
  Arguments of the cell's statements, read.
-/
import Derived.Test.YtlgcnnhlbkidmaaArgs
namespace Go.Proofs.Ytlgcnnhlbkidmaa
open Go.ChangeShapes Go.WideShapes Go.ChangeAt Go.RowKit

theorem cells_u8 : Try.prog.cellsOf 5 = 1 := by kernel_rfl
theorem cells_bounds : Try.prog.cellsOf 70 = 7 := by kernel_rfl
theorem bounds_of_trod {H : Type} {enc : TypeId × Value → H} {w : World} {base : Nat} {sp : Nat → Bool} {held : Bool} {fuel : Nat} {cs : List Value} {x : DataW H × List MemPlace}
    (h : DataW.trod enc Try.prog w base sp held fuel 70 cs = some x) : ∃ a0 a1 a2 a3 a4 a5 a6, (Lit.int .i64 a0).wf = true ∧ (Lit.int .i64 a1).wf = true ∧ (Lit.int .i64 a2).wf = true ∧ (Lit.int .i64 a3).wf = true ∧ (Lit.int .i64 a4).wf = true ∧ (Lit.int .i64 a5).wf = true ∧ (Lit.int .i64 a6).wf = true ∧ cs = [.int .i64 a0, .int .i64 a1, .int .i64 a2, .int .i64 a3, .int .i64 a4, .int .i64 a5, .int .i64 a6] := by
  obtain ⟨xs, n, _, _, hl, hxl, hf⟩ := DataW.trod_struct Try.underlying70 h
  have h0 := hf 0 _ rfl
  have h1 := hf 1 _ rfl
  have h2 := hf 2 _ rfl
  have h3 := hf 3 _ rfl
  have h4 := hf 4 _ rfl
  have h5 := hf 5 _ rfl
  have h6 := hf 6 _ rfl
  rw [cells_bounds] at hl
  match xs, hxl with
  | [x0, x1, x2, x3, x4, x5, x6], _ =>
    obtain ⟨a0, e0, _, w0⟩ := DataW.trod_int Try.underlying3 h0
    obtain ⟨a1, e1, _, w1⟩ := DataW.trod_int Try.underlying3 h1
    obtain ⟨a2, e2, _, w2⟩ := DataW.trod_int Try.underlying3 h2
    obtain ⟨a3, e3, _, w3⟩ := DataW.trod_int Try.underlying3 h3
    obtain ⟨a4, e4, _, w4⟩ := DataW.trod_int Try.underlying3 h4
    obtain ⟨a5, e5, _, w5⟩ := DataW.trod_int Try.underlying3 h5
    obtain ⟨a6, e6, _, w6⟩ := DataW.trod_int Try.underlying3 h6
    refine ⟨a0, a1, a2, a3, a4, a5, a6, w0, w1, w2, w3, w4, w5, w6, ?_⟩
    have e0' : (cs.drop 0).take (Try.prog.cellsOf 3) = [.int .i64 a0] := e0
    rw [cells_int] at e0'
    have e1' : (cs.drop 1).take (Try.prog.cellsOf 3) = [.int .i64 a1] := e1
    rw [cells_int] at e1'
    have e2' : (cs.drop 2).take (Try.prog.cellsOf 3) = [.int .i64 a2] := e2
    rw [cells_int] at e2'
    have e3' : (cs.drop 3).take (Try.prog.cellsOf 3) = [.int .i64 a3] := e3
    rw [cells_int] at e3'
    have e4' : (cs.drop 4).take (Try.prog.cellsOf 3) = [.int .i64 a4] := e4
    rw [cells_int] at e4'
    have e5' : (cs.drop 5).take (Try.prog.cellsOf 3) = [.int .i64 a5] := e5
    rw [cells_int] at e5'
    have e6' : (cs.drop 6).take (Try.prog.cellsOf 3) = [.int .i64 a6] := e6
    rw [cells_int] at e6'
    rw [show cs = cs.drop 0 by simp, piece 0 1 e0', piece 1 1 e1', piece 2 1 e2', piece 3 1 e3', piece 4 1 e4', piece 5 1 e5', piece 6 1 e6', List.drop_of_length_le (by omega)]
    rfl
set_option maxHeartbeats 400000 in
theorem cells_actc : Try.prog.cellsOf 80 = 4 := by kernel_rfl
theorem actc_of_trod {H : Type} {enc : TypeId × Value → H} {w : World} {base : Nat} {sp : Nat → Bool} {held : Bool} {fuel : Nat} {cs : List Value} {x : DataW H × List MemPlace}
    (h : DataW.trod enc Try.prog w base sp held fuel 80 cs = some x) : ∃ a0 a1 b1 a2, (Lit.int .u8 a0).wf = true ∧ In64 a1 ∧ In64 b1 ∧ (Lit.int .i64 a2).wf = true ∧ cs = [.int .u8 a0, .int .i64 a1, .int .i64 b1, .int .i64 a2] := by
  obtain ⟨xs, n, _, _, hl, hxl, hf⟩ := DataW.trod_struct Try.underlying80 h
  have h0 := hf 0 _ rfl
  have h1 := hf 1 _ rfl
  have h2 := hf 2 _ rfl
  rw [cells_actc] at hl
  match xs, hxl with
  | [x0, x1, x2], _ =>
    obtain ⟨a0, e0, _, w0⟩ := DataW.trod_int Try.underlying5 h0
    obtain ⟨a1, b1, wa1, wb1, e1⟩ := pin_of_trod h1
    obtain ⟨a2, e2, _, w2⟩ := DataW.trod_int Try.underlying3 h2
    refine ⟨a0, a1, b1, a2, w0, wa1, wb1, w2, ?_⟩
    have e0' : (cs.drop 0).take (Try.prog.cellsOf 5) = [.int .u8 a0] := e0
    rw [cells_u8] at e0'
    have e1' : (cs.drop 1).take (Try.prog.cellsOf 39) = [.int .i64 a1, .int .i64 b1] := e1
    rw [cells_pin] at e1'
    have e2' : (cs.drop 3).take (Try.prog.cellsOf 3) = [.int .i64 a2] := e2
    rw [cells_int] at e2'
    rw [show cs = cs.drop 0 by simp, piece 0 1 e0', piece 1 2 e1', piece 3 1 e2', List.drop_of_length_le (by omega)]
    rfl
end Go.Proofs.Ytlgcnnhlbkidmaa
