/-
  Arguments, read: booleans, strings, rows of booleans.
-/
import Derived.Test.YtlgcnnhlbkidmaaEls
namespace Go.Proofs.Ytlgcnnhlbkidmaa
open Go.ChangeShapes Go.WideShapes Go.ChangeAt Go.RowKit

theorem bool_of_trod {H : Type} {enc : TypeId × Value → H} {P : Program} {w : World} {base : Nat} {sp : Nat → Bool} {held : Bool} {fuel : Nat} {cs : List Value} {x : DataW H × List MemPlace} {t : TypeId} (ht : P.underlying t = some .bool)
    (h : DataW.trod enc P w base sp held fuel t cs = some x) : ∃ z, cs = [.bool z] := by
  cases fuel with
  | zero => simp [DataW.trod] at h
  | succ n =>
    unfold DataW.trod at h
    rw [ht] at h
    split at h <;> simp_all
theorem str_of_trod {H : Type} {enc : TypeId × Value → H} {P : Program} {w : World} {base : Nat} {sp : Nat → Bool} {held : Bool} {fuel : Nat} {cs : List Value} {x : DataW H × List MemPlace} {t : TypeId} (ht : P.underlying t = some .string)
    (h : DataW.trod enc P w base sp held fuel t cs = some x) : ∃ s : ByteArray, cs = [.string s] ∧ s.size ≤ maxLen := by
  obtain ⟨s, h1, _, h3⟩ := DataW.trod_string ht h
  exact ⟨s, h1, h3⟩
/-- An argument that is a row of booleans. -/
theorem bools_of_trod {H : Type} {enc : TypeId × Value → H} {P : Program} {w : World} {base : Nat} {sp : Nat → Bool} {held : Bool} {fuel : Nat} {cs : List Value} {x : DataW H × List MemPlace} {t e : TypeId} (ht : P.underlying t = some (.slice e)) (he : P.underlying e = some .bool) (hc : P.cellsOf e = 1)
    (h : DataW.trod enc P w base sp held fuel t cs = some x) : ∃ v n f, cs = [v] ∧ Els w v n 1 f ∧ ∀ i, i < n → ∃ z, f i = [.bool z] :=
  els_of_trod (sz := 1) ht hc (by decide) (fun _ _ _ hd => bool_of_trod he hd) h
/-- An argument that is a row of ints. -/
theorem ints_of_trod {H : Type} {enc : TypeId × Value → H} {w : World} {base : Nat} {sp : Nat → Bool} {held : Bool} {fuel : Nat} {cs : List Value} {x : DataW H × List MemPlace} {t e : TypeId} (ht : Try.prog.underlying t = some (.slice e)) (he : Try.prog.underlying e = some (.int .i64)) (hc : Try.prog.cellsOf e = 1)
    (h : DataW.trod enc Try.prog w base sp held fuel t cs = some x) : ∃ (v : Value) (zs : List Int), cs = [v] ∧ (∀ z ∈ zs, -9223372036854775808 ≤ z ∧ z ≤ 9223372036854775807) ∧ Rd w v (zs.map (Value.int .i64)) := by
  obtain ⟨v, n, f, rfl, ⟨A, cap, rfl, h1, h2, h0, h3⟩, hP⟩ := els_of_trod (sz := 1) ht hc (by decide) (Pe := fun cs' : List Value => ∃ z : Int, cs' = [Value.int .i64 z] ∧ -9223372036854775808 ≤ z ∧ z ≤ 9223372036854775807) (fun n cs' d hd => by
    obtain ⟨z, h1, h2, h3⟩ := int_of_trod he hd
    exact ⟨z, h1, h2, h3⟩) h
  obtain ⟨g, hg⟩ := Deep.choose_lt (n := n) (p := fun i z => f i = [.int .i64 z] ∧ -9223372036854775808 ≤ z ∧ z ≤ 9223372036854775807) hP
  refine ⟨_, (List.range n).map g, rfl, ?_, A, cap, by simp, by simpa using h1, h2, h0, ?_⟩
  · intro z hz
    obtain ⟨i, hi, rfl⟩ := List.mem_map.1 hz
    exact (hg i (List.mem_range.1 hi)).2
  · by_cases hn : n = 0
    · left; subst hn; rfl
    · right
      obtain ⟨b, o, rfl, _, h4⟩ := h3 hn
      refine ⟨b, o, rfl, fun j hj => ?_⟩
      have hj' : j < n := by simpa using hj
      have h5 := (h4 j hj').2 0 (by decide)
      rw [(hg j hj').1] at h5
      simpa using h5
end Go.Proofs.Ytlgcnnhlbkidmaa
