/-
  A call of a disk, as an argument; the law's small bound on it.
-/
import Derived.Test.YtlgcnnhlbkidmaaKinds
namespace Go.Proofs.Ytlgcnnhlbkidmaa
open Go.ChangeShapes Go.WideShapes Go.ChangeAt Go.RowKit

structure ActDS where
  kd : Int
  nm : ByteArray
  to : ByteArray
  bv : Value
  b : List Int
  n : Int
  cv : Value
  cuts : List Int
def ActDS.cells (a : ActDS) : List Value := [.int .u8 a.kd, .string a.nm, .string a.to, a.bv, .int .i64 a.n, a.cv]
structure ActD (w : World) (a : ActDS) : Prop where
  kd : 0 ≤ a.kd ∧ a.kd ≤ 255
  nm : a.nm.size ≤ maxLen
  to : a.to.size ≤ maxLen
  rb : Rd w a.bv (bs a.b)
  isB : IsB a.b
  n : -9223372036854775808 ≤ a.n ∧ a.n ≤ 9223372036854775807
  rc : Rd w a.cv (a.cuts.map (Value.int .i64))
  isC : ∀ z ∈ a.cuts, -9223372036854775808 ≤ z ∧ z ≤ 9223372036854775807
theorem ActD.stay {w w' : World} {a : ActDS} {B : Nat} (h : ActD w a) (hb : Below B w w') (hB : w.heap.size ≤ B) : ActD w' a := ⟨h.kd, h.nm, h.to, h.rb.stay hb hB, h.isB, h.n, h.rc.stay hb hB, h.isC⟩
theorem pieceD {cs : List Value} (n k : Nat) {l : List Value} (h : (cs.drop n).take k = l) : cs.drop n = l ++ cs.drop (n + k) := by
  rw [← h, ← List.drop_drop, List.take_append_drop]
theorem cells_intD : Try.prog.cellsOf 3 = 1 := by kernel_rfl
theorem cells_strD : Try.prog.cellsOf 9 = 1 := by kernel_rfl
theorem cells_bytesD : Try.prog.cellsOf 22 = 1 := by kernel_rfl
theorem cells_intsD : Try.prog.cellsOf 88 = 1 := by kernel_rfl
theorem cells_actD : Try.prog.cellsOf 116 = 6 := by kernel_rfl
theorem actd_of_trod {H : Type} {enc : TypeId × Value → H} {w : World} {base : Nat} {sp : Nat → Bool} {held : Bool} {fuel : Nat} {cs : List Value} {x : DataW H × List MemPlace}
    (h : DataW.trod enc Try.prog w base sp held fuel 116 cs = some x) : ∃ a : ActDS, ActD w a ∧ cs = a.cells := by
  obtain ⟨xs, n, _, _, hl, hxl, hf⟩ := DataW.trod_struct Try.underlying116 h
  have h0 := hf 0 _ rfl
  have h1 := hf 1 _ rfl
  have h2 := hf 2 _ rfl
  have h3 := hf 3 _ rfl
  have h4 := hf 4 _ rfl
  have h5 := hf 5 _ rfl
  rw [cells_actD] at hl
  match xs, hxl with
  | [x0, x1, x2, x3, x4, x5], _ =>
    obtain ⟨a0, e0, l0, u0⟩ := int_of_trod Try.underlying5 h0
    obtain ⟨s1, e1, l1⟩ := str_of_trod Try.underlying9 h1
    obtain ⟨s2, e2, l2⟩ := str_of_trod Try.underlying9 h2
    obtain ⟨fr, ys, e3, hy, hr⟩ := bytes_of_trod h3
    obtain ⟨a4, e4, l4, u4⟩ := int_of_trod Try.underlying3 h4
    obtain ⟨cv, zs, e5, hz, hc⟩ := ints_of_trod Try.underlying88 Try.underlying3 (by kernel_rfl) h5
    refine ⟨⟨a0, s1, s2, fr, ys, a4, cv, zs⟩, ⟨⟨l0, u0⟩, l1, l2, hr, hy, ⟨l4, u4⟩, hc, hz⟩, ?_⟩
    have e0' : (cs.drop 0).take (Try.prog.cellsOf 5) = [.int .u8 a0] := e0
    rw [cells_u8] at e0'
    have e1' : (cs.drop 1).take (Try.prog.cellsOf 9) = [.string s1] := e1
    rw [cells_strD] at e1'
    have e2' : (cs.drop 2).take (Try.prog.cellsOf 9) = [.string s2] := e2
    rw [cells_strD] at e2'
    have e3' : (cs.drop 3).take (Try.prog.cellsOf 22) = [fr] := e3
    rw [cells_bytesD] at e3'
    have e4' : (cs.drop 4).take (Try.prog.cellsOf 3) = [.int .i64 a4] := e4
    rw [cells_intD] at e4'
    have e5' : (cs.drop 5).take (Try.prog.cellsOf 88) = [cv] := e5
    rw [cells_intsD] at e5'
    rw [show cs = cs.drop 0 by simp, pieceD 0 1 e0', pieceD 1 1 e1', pieceD 2 1 e2', pieceD 3 1 e3', pieceD 4 1 e4', pieceD 5 1 e5', List.drop_of_length_le (by omega)]
    rfl
set_option maxRecDepth 100000 in
set_option maxHeartbeats 1000000 in
theorem few09_any (w : World) (a : ActDS) (h : ActD w a) (g : Nat) (hb : Blk w g a.cells 116) :
    Calls Try.prog 66 #[.slice (some ⟨g, 0, none⟩) 1 1, .int .i64 1] w fun e w' => ∃ b : Bool, e = .returned (.bool b) ∧ w = w' := by
  obtain ⟨kd, nm, to, bv, b, n, cv, cuts⟩ := a
  obtain ⟨Ab, cb, hvb, _⟩ := id h.rb
  obtain ⟨Ac, cc, hvc, _⟩ := id h.rc
  have hm1 := h.rb.len
  have hm2 := h.rc.len
  have hn1 := h.nm
  have hn2 := h.to
  unfold maxLen at hn1 hn2
  simp only at hvb hvc hm1 hm2 hn1 hn2
  subst hvb hvc
  rw [bs_len] at hb hm1
  rw [List.length_map] at hb hm2
  have c1 := hb.at_ 1 rfl
  have c2 := hb.at_ 2 rfl
  have c3 := hb.at_ 3 rfl
  have c5 := hb.at_ 5 rfl
  clear h hb
  go_enter Try.func66, Try.ntmps66
  go_wp2_with fail
  go_loopw [5] (fun x wr => ∃ k : Nat, k ≤ 1 ∧ x = .int .i64 k ∧ wr = w) (fun x _ => 1 - (intOf x).toNat)
  case atStart => exact ⟨0, by omega, rfl, rfl⟩
  case round =>
    obtain ⟨k, hk, rfl, rfl⟩ := hrel
    rcases (show k = 0 ∨ k = 1 by omega) with rfl | rfl
    · by_cases h1 : (60 : Int) < nm.size
      · go_wp2_with fail
        all_goals go_ret
        first | exact ⟨_, rfl, rfl⟩ | exact ⟨⟨_, rfl⟩, rfl⟩ | simp
      by_cases h2 : (60 : Int) < to.size
      · go_wp2_with fail
        all_goals go_ret
        first | exact ⟨_, rfl, rfl⟩ | exact ⟨⟨_, rfl⟩, rfl⟩ | simp
      by_cases h3 : (300 : Int) < b.length
      · go_wp2_with fail
        all_goals go_ret
        first | exact ⟨_, rfl, rfl⟩ | exact ⟨⟨_, rfl⟩, rfl⟩ | simp
      by_cases h4 : (80 : Int) < cuts.length
      · go_wp2_with fail
        all_goals go_ret
        first | exact ⟨_, rfl, rfl⟩ | exact ⟨⟨_, rfl⟩, rfl⟩ | simp
      · go_wp2_with fail
        exact ⟨⟨1, by omega, rfl, trivial⟩, by simp [intOf]⟩
    · go_wp2_with fail
      all_goals go_ret
      exact ⟨_, rfl, rfl⟩
end Go.Proofs.Ytlgcnnhlbkidmaa
