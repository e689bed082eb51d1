/-
  A row of the call's own: its cells, and a cell of it that is set.
-/
import Derived.Test.YtlgcnnhlbkidmaaApp
namespace Go.Proofs.Ytlgcnnhlbkidmaa
open Go.RowKit

theorem ownsRow_cases {w : World} {base n : Nat} {e : TypeId} {v : Value} {xs : List Value} (h : w.ownsRow base e 1 v n xs) :
    (v = .slice none 0 0 ∧ n = 0 ∧ xs = []) ∨ ∃ g cap, v = .slice (some ⟨g, 0, none⟩) n cap ∧ base ≤ g ∧ g < w.heap.size ∧ n ≤ cap ∧ cap ≤ maxLen ∧
      (∀ (j : Nat) y, xs[j]? = some y → w.cell? ⟨g, j, none⟩ = some y) ∧ (∀ (j : Nat), w.frozen? ⟨g, j, none⟩ = false) ∧
      ∀ (j : Nat) y, j < n → (w.setCell ⟨g, j, none⟩ y).ownsRow base e 1 v n (xs.set j y) := by
  obtain ⟨hl, ⟨rfl, rfl⟩ | ⟨g, cap, cur, rfl, hb, hg, hn, hc, hs, ht⟩⟩ := h
  · exact .inl ⟨rfl, rfl, List.eq_nil_of_length_eq_zero (by omega)⟩
  · refine .inr ⟨g, cap, rfl, hb, (Array.getElem?_eq_some_iff.1 hg).1, hn, hc, fun j y hj => ?_, fun j => ?_, fun j y hj => ?_⟩
    · have hlt := (List.getElem?_eq_some_iff.1 hj).1
      rw [← ht, List.getElem?_take_of_lt (by omega)] at hj
      simp [World.cell?, hg]
      simpa using hj
    · simp [World.frozen?, hg]
    · refine ⟨by simpa using hl, .inr ⟨g, cap, cur.setIfInBounds j y, rfl, hb, ?_, hn, hc, by simpa using hs, ?_⟩⟩
      · simp [World.setCell, Array.getElem?_modify, hg]
      · rw [← ht, Array.toList_setIfInBounds, List.take_set]
end Go.Proofs.Ytlgcnnhlbkidmaa
