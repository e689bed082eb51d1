/-
  Arguments that are structs of integers, read.
-/
import Derived.Test.YtlgcnnhlbkidmaaSub
import Derived.Deep.Slices
namespace Go.Proofs.Ytlgcnnhlbkidmaa
open Go.ChangeShapes Go.WideShapes Go.ChangeAt Go.RowKit

def In64 (z : Int) : Prop := -9223372036854775808 ≤ z ∧ z ≤ 9223372036854775807
theorem in64_of_wf {z : Int} (h : (Lit.int .i64 z).wf = true) : In64 z := by
  simp [Lit.wf] at h
  have q1 : IntKind.i64.min = -9223372036854775808 := rfl
  have q2 : IntKind.i64.max = 9223372036854775807 := rfl
  unfold In64
  omega

/-- The cells of a piece. -/
theorem piece {cs : List Value} (n k : Nat) {l : List Value} (h : (cs.drop n).take k = l) : cs.drop n = l ++ cs.drop (n + k) := by
  rw [← h, ← List.drop_drop, List.take_append_drop]

theorem cells_int : Try.prog.cellsOf 3 = 1 := by kernel_rfl
theorem cells_pin : Try.prog.cellsOf 39 = 2 := by kernel_rfl

theorem pin_of_trod {H : Type} {enc : TypeId × Value → H} {w : World} {base : Nat} {sp : Nat → Bool} {held : Bool} {fuel : Nat} {cs : List Value} {x : DataW H × List MemPlace}
    (h : DataW.trod enc Try.prog w base sp held fuel 39 cs = some x) : ∃ a b, In64 a ∧ In64 b ∧ cs = [.int .i64 a, .int .i64 b] := by
  obtain ⟨xs, n, _, _, hl, hxl, hf⟩ := DataW.trod_struct Try.underlying39 h
  have h0 := hf 0 _ rfl
  have h1 := hf 1 _ rfl
  rw [cells_pin] at hl
  match xs, hxl with
  | [x0, x1], _ =>
    obtain ⟨a, e0, _, w0⟩ := DataW.trod_int Try.underlying3 h0
    obtain ⟨b, e1, _, w1⟩ := DataW.trod_int Try.underlying3 h1
    refine ⟨a, b, in64_of_wf w0, in64_of_wf w1, ?_⟩
    have e0' : (cs.drop 0).take (Try.prog.cellsOf 3) = [.int .i64 a] := e0
    have e1' : (cs.drop 1).take (Try.prog.cellsOf 3) = [.int .i64 b] := e1
    rw [cells_int] at e0' e1'
    rw [show cs = cs.drop 0 by simp, piece 0 1 e0', piece 1 1 e1', List.drop_of_length_le (by omega)]
    rfl

/-- A slice whose elements have 'sz' cells each. -/
def Els (w : World) (v : Value) (n sz : Nat) (f : Nat → List Value) : Prop :=
  ∃ A cap, v = .slice A n cap ∧ n ≤ cap ∧ cap ≤ maxLen ∧ (n ≠ 0 → ∃ b o, A = some ⟨b, o, none⟩ ∧ b < w.heap.size ∧ ∀ i, i < n → (f i).length = sz ∧ ∀ j, j < sz → w.cell? ⟨b, o + i * sz + j, none⟩ = (f i)[j]?)
theorem Els.stay {w w' : World} {v : Value} {n sz : Nat} {f : Nat → List Value} {B : Nat} (h : Els w v n sz f) (hb : Below B w w') (hB : w.heap.size ≤ B) : Els w' v n sz f := by
  obtain ⟨A, cap, rfl, h1, h2, h3⟩ := h
  refine ⟨A, cap, rfl, h1, h2, fun hn => ?_⟩
  obtain ⟨b, o, rfl, hlt, h4⟩ := h3 hn
  refine ⟨b, o, rfl, Nat.lt_of_lt_of_le hlt hb.size, fun i hi => ⟨(h4 i hi).1, fun j hj => ?_⟩⟩
  rw [hb.cell (p := ⟨b, o + i * sz + j, none⟩) (Nat.lt_of_lt_of_le hlt hB)]
  exact (h4 i hi).2 j hj
theorem Els.len {w : World} {v : Value} {n sz : Nat} {f : Nat → List Value} (h : Els w v n sz f) : n ≤ 9223372036854775807 := by
  obtain ⟨A, cap, rfl, h1, h2, h3⟩ := h
  unfold maxLen at h2; omega

theorem els_of_trod {H : Type} {enc : TypeId × Value → H} {P : Program} {w : World} {base : Nat} {sp : Nat → Bool} {held : Bool} {fuel : Nat} {v : Value} {x : DataW H × List MemPlace} {t e : TypeId} {sz : Nat} (ht : P.underlying t = some (.slice e)) (hsz : P.cellsOf e = sz) (hpos : 0 < sz)
    {Pe : List Value → Prop} (hE : ∀ (n : Nat) (cs' : List Value) (d : DataW H × List MemPlace), DataW.trod enc P w base sp held n e cs' = some d → Pe cs') (h : DataW.trod enc P w base sp held fuel t [v] = some x) :
    ∃ n f, Els w v n sz f ∧ ∀ i, i < n → Pe (f i) := by
  rcases Deep.open_slice ht h with ⟨h1, _⟩ | ⟨a, len, cap, m, n', D, Pl, h1, _, hlc, hcm, hm, _, hall⟩
  · obtain rfl : v = .slice none 0 0 := by simpa using h1
    exact ⟨0, fun _ => [], ⟨none, 0, rfl, Nat.le_refl _, Nat.zero_le _, fun h => absurd rfl h⟩, fun i hi => by omega⟩
  · obtain rfl : v = .slice (some a) len cap := by simpa using h1
    have hlm : len ≤ m := by rw [hm]; split <;> omega
    obtain ⟨f, hf⟩ := Deep.choose_lt (n := len) (p := fun i cs' => w.cells? base (a.add (i * sz)) sz = some cs' ∧ Pe cs') fun i hi => by
      obtain ⟨cs', h2, h3⟩ := hall i (by omega)
      rw [hsz] at h2
      exact ⟨cs', h2, hE _ _ _ h3⟩
    refine ⟨len, f, ⟨some a, cap, rfl, hlc, hcm, fun hn => ?_⟩, fun i hi => (hf i hi).2⟩
    have hc := fun i (hi : i < len) => World.cells?_some (hf i hi).1
    have h0 := hc 0 (by omega)
    have hspot : a.spot = none := by
      have h2 := h0.2.2 0 hpos
      rw [List.getElem?_eq_getElem (by omega)] at h2
      simp only [Nat.zero_mul, Addr.add, if_true, World.cell?] at h2
      cases hs : a.spot with
      | none => rfl
      | some q =>
        rw [hs] at h2
        split at h2 <;> simp at h2
    obtain ⟨b, o, s⟩ := a
    simp only at hspot
    subst hspot
    refine ⟨b, o, rfl, ?_, fun i hi => ⟨(hc i hi).2.1, fun j hj => ?_⟩⟩
    · have h2 := h0.2.2 0 hpos
      rw [List.getElem?_eq_getElem (by omega)] at h2
      have := World.block_lt_of_cell? w _ h2
      simpa [Addr.add] using this
    · have h2 := (hc i hi).2.2 j hj
      rw [← h2]
      congr 1
      unfold Addr.add
      by_cases hi0 : i * sz = 0 <;> by_cases hj0 : j = 0 <;> simp [hi0, hj0]

/-- An argument of a one-cell type is that cell. -/
theorem one_of_ok {P : Program} {W : World} {base : Nat} {t : TypeId} {v : Value} {d : TypeDesc} (ht : P.underlying t = some d) (hd : (match d with | .slice _ | .int _ | .bool | .string => true | _ => false) = true) (hv : Value.okWide P W .any base t v) : v.cells.toList = [v] := by
  cases v with
  | agg cs =>
    exfalso
    unfold Value.okWide at hv
    rw [ht] at hv
    cases d <;> simp at hd <;> simp [Cell.okWide, Cell.ok, ht] at hv
  | _ => rfl
end Go.Proofs.Ytlgcnnhlbkidmaa
