/-
  Arguments, read: slices, rows of bytes.
-/
import Derived.Test.YtlgcnnhlbkidmaaBytes
import Derived.Deep.Slices
namespace Go.Proofs.Ytlgcnnhlbkidmaa
open Go.ChangeShapes Go.WideShapes Go.ChangeAt Go.RowKit

theorem byte_of_wf {z : Int} (h : (Lit.int .u8 z).wf = true) : 0 ≤ z ∧ z ≤ 255 := by
  simp [Lit.wf] at h
  have e1 : IntKind.u8.min = 0 := rfl
  have e2 : IntKind.u8.max = 255 := rfl
  omega
theorem cells_u8 : Try.prog.cellsOf 5 = 1 := by kernel_rfl

/-- A slice whose elements have 'sz' cells each. -/
def Els (w : World) (v : Value) (n sz : Nat) (f : Nat → List Value) : Prop :=
  ∃ A cap, v = .slice A n cap ∧ n ≤ cap ∧ cap ≤ maxLen ∧ (A = none → cap = 0) ∧ (n ≠ 0 → ∃ b o, A = some ⟨b, o, none⟩ ∧ b < w.heap.size ∧ ∀ i, i < n → (f i).length = sz ∧ ∀ j, j < sz → w.cell? ⟨b, o + i * sz + j, none⟩ = (f i)[j]?)
theorem Els.stay {w w' : World} {v : Value} {n sz : Nat} {f : Nat → List Value} {B : Nat} (h : Els w v n sz f) (hb : Below B w w') (hB : w.heap.size ≤ B) : Els w' v n sz f := by
  obtain ⟨A, cap, rfl, h1, h2, h0, h3⟩ := h
  refine ⟨A, cap, rfl, h1, h2, h0, fun hn => ?_⟩
  obtain ⟨b, o, rfl, hlt, h4⟩ := h3 hn
  refine ⟨b, o, rfl, Nat.lt_of_lt_of_le hlt hb.size, fun i hi => ⟨(h4 i hi).1, fun j hj => ?_⟩⟩
  rw [hb.cell (p := ⟨b, o + i * sz + j, none⟩) (Nat.lt_of_lt_of_le hlt hB)]
  exact (h4 i hi).2 j hj
theorem Els.len {w : World} {v : Value} {n sz : Nat} {f : Nat → List Value} (h : Els w v n sz f) : n ≤ 9223372036854775807 := by
  obtain ⟨A, cap, rfl, h1, h2, _, h3⟩ := h
  unfold maxLen at h2; omega

theorem els_of_trod {H : Type} {enc : TypeId × Value → H} {P : Program} {w : World} {base : Nat} {sp : Nat → Bool} {held : Bool} {fuel : Nat} {cs : List Value} {x : DataW H × List MemPlace} {t e : TypeId} {sz : Nat} (ht : P.underlying t = some (.slice e)) (hsz : P.cellsOf e = sz) (hpos : 0 < sz)
    {Pe : List Value → Prop} (hE : ∀ (n : Nat) (cs' : List Value) (d : DataW H × List MemPlace), DataW.trod enc P w base sp held n e cs' = some d → Pe cs') (h : DataW.trod enc P w base sp held fuel t cs = some x) :
    ∃ v n f, cs = [v] ∧ Els w v n sz f ∧ ∀ i, i < n → Pe (f i) := by
  rcases Deep.open_slice ht h with ⟨h1, _⟩ | ⟨a, len, cap, m, n', D, Pl, h1, _, hlc, hcm, hm, _, hall⟩
  · subst h1
    exact ⟨_, 0, fun _ => [], rfl, ⟨none, 0, rfl, Nat.le_refl _, Nat.zero_le _, fun _ => rfl, fun h => absurd rfl h⟩, fun i hi => by omega⟩
  · subst h1
    have hlm : len ≤ m := by rw [hm]; split <;> omega
    obtain ⟨f, hf⟩ := Deep.choose_lt (n := len) (p := fun i cs' => w.cells? base (a.add (i * sz)) sz = some cs' ∧ Pe cs') fun i hi => by
      obtain ⟨cs', h2, h3⟩ := hall i (by omega)
      rw [hsz] at h2
      exact ⟨cs', h2, hE _ _ _ h3⟩
    refine ⟨_, len, f, rfl, ⟨some a, cap, rfl, hlc, hcm, (fun h => by cases h), fun hn => ?_⟩, fun i hi => (hf i hi).2⟩
    have hc := fun i (hi : i < len) => World.cells?_some (hf i hi).1
    have h0 := hc 0 (by omega)
    have hspot : a.spot = none := by
      have h2 := h0.2.2 0 hpos
      rw [List.getElem?_eq_getElem (by omega)] at h2
      simp only [Nat.zero_mul, Addr.add, if_true, World.cell?] at h2
      cases hs : a.spot with
      | none => rfl
      | some q =>
        rw [hs] at h2
        split at h2 <;> simp at h2
    obtain ⟨b, o, s⟩ := a
    simp only at hspot
    subst hspot
    refine ⟨b, o, rfl, ?_, fun i hi => ⟨(hc i hi).2.1, fun j hj => ?_⟩⟩
    · have h2 := h0.2.2 0 hpos
      rw [List.getElem?_eq_getElem (by omega)] at h2
      have := World.block_lt_of_cell? w _ h2
      simpa [Addr.add] using this
    · have h2 := (hc i hi).2.2 j hj
      rw [← h2]
      congr 1
      unfold Addr.add
      by_cases hi0 : i * sz = 0 <;> by_cases hj0 : j = 0 <;> simp [hi0, hj0]

/-- An argument of a one-cell type is that cell. -/
theorem one_of_ok {P : Program} {W : World} {base : Nat} {t : TypeId} {v : Value} {d : TypeDesc} (ht : P.underlying t = some d) (hd : (match d with | .slice _ | .int _ | .bool | .string => true | _ => false) = true) (hv : Value.okWide P W .any base t v) : v.cells.toList = [v] := by
  cases v with
  | agg cs =>
    exfalso
    unfold Value.okWide at hv
    rw [ht] at hv
    cases d <;> simp at hd <;> simp [Cell.okWide, Cell.ok, ht] at hv
  | _ => rfl

/-- An argument that is a row of bytes. -/
theorem bytes_of_trod {H : Type} {enc : TypeId × Value → H} {w : World} {base : Nat} {sp : Nat → Bool} {held : Bool} {fuel : Nat} {cs : List Value} {x : DataW H × List MemPlace}
    (h : DataW.trod enc Try.prog w base sp held fuel 22 cs = some x) : ∃ v xs, cs = [v] ∧ IsB xs ∧ Rd w v (bs xs) := by
  obtain ⟨v, n, f, rfl, ⟨A, cap, rfl, h1, h2, h0, h3⟩, hP⟩ := els_of_trod (sz := 1) Try.underlying22 cells_u8 (by decide) (Pe := fun cs' => ∃ z, cs' = [.int .u8 z] ∧ 0 ≤ z ∧ z ≤ 255) (fun n cs' d hd => by
    obtain ⟨z, h1, _, h3⟩ := DataW.trod_int Try.underlying5 hd
    exact ⟨z, h1, byte_of_wf h3⟩) h
  obtain ⟨g, hg⟩ := Deep.choose_lt (n := n) (p := fun i z => f i = [.int .u8 z] ∧ 0 ≤ z ∧ z ≤ 255) hP
  refine ⟨_, (List.range n).map g, rfl, ?_, A, cap, by simp [bs], by simpa [bs] using h1, h2, h0, ?_⟩
  · intro z hz
    obtain ⟨i, hi, rfl⟩ := List.mem_map.1 hz
    exact (hg i (List.mem_range.1 hi)).2
  · by_cases hn : n = 0
    · left; subst hn; rfl
    · right
      obtain ⟨b, o, rfl, _, h4⟩ := h3 hn
      refine ⟨b, o, rfl, fun j hj => ?_⟩
      have hj' : j < n := by simpa [bs] using hj
      have h5 := (h4 j hj').2 0 (by decide)
      rw [(hg j hj').1] at h5
      simpa [bs] using h5
/-- An argument that is rows of bytes. -/
theorem rows_of_trod {H : Type} {enc : TypeId × Value → H} {w : World} {base : Nat} {sp : Nat → Bool} {held : Bool} {fuel : Nat} {cs : List Value} {x : DataW H × List MemPlace} {t : TypeId} (ht : Try.prog.underlying t = some (.slice 22)) (hc : Try.prog.cellsOf 22 = 1)
    (h : DataW.trod enc Try.prog w base sp held fuel t cs = some x) : ∃ v n f, cs = [v] ∧ Els w v n 1 f ∧ ∀ i, i < n → ∃ u xs, f i = [u] ∧ IsB xs ∧ Rd w u (bs xs) :=
  els_of_trod (sz := 1) ht hc (by decide) (fun _ _ _ hd => bytes_of_trod hd) h
theorem int_of_trod {H : Type} {enc : TypeId × Value → H} {w : World} {base : Nat} {sp : Nat → Bool} {held : Bool} {fuel : Nat} {cs : List Value} {x : DataW H × List MemPlace} {t : TypeId} {k : IntKind} (ht : Try.prog.underlying t = some (.int k))
    (h : DataW.trod enc Try.prog w base sp held fuel t cs = some x) : ∃ z, cs = [.int k z] ∧ k.min ≤ z ∧ z ≤ k.max := by
  obtain ⟨z, h1, _, h3⟩ := DataW.trod_int ht h
  refine ⟨z, h1, ?_⟩
  simp [Lit.wf] at h3
  omega
end Go.Proofs.Ytlgcnnhlbkidmaa
