/-
  From the print's words (Kd) to Rd and back.
-/
import Derived.Test.YtmjjnaaiakchhaaBytes
import Derived.Test.YtmjjnaaiakchhaaWWords
import Derived.Test.YtmjjnaaiakchhaaWMore
import Derived.Test.YtmjjnaaiakchhaaWLast
namespace Go.Proofs.Ytmjjnaaiakchhaa
open Go.RowKit Go.Proofs.YtmjjnaaiakchhaaW.PrintWords Go.Proofs.YtmjjnaaiakchhaaW.PrintLast Go.Proofs.YtmjjnaaiakchhaaW.PrintMore

theorem kd_of_rd {w : World} {A : Option Addr} {n c : Nat} {k : IntKind} {xs : List Int} (h : Rd w (.slice A n c) (xs.map (Value.int k))) : (Kd.int k).C w A xs.length xs := by
  obtain ⟨A', c', hv, h1, h2, _, h3⟩ := h
  injection hv with e1 e2 e3
  subst e1 e2 e3
  rw [List.length_map] at h1
  unfold maxLen at h2
  refine ⟨rfl, by omega, fun h0 => ?_⟩
  rcases h3 with h3 | ⟨b, o, rfl, h3⟩
  · have : (xs.map (Value.int k)).length = 0 := by rw [h3]; rfl
    rw [List.length_map] at this
    omega
  · refine ⟨_, rfl, fun j p hj => ⟨[.int k p], rfl, rfl, fun i u hu => ?_⟩⟩
    obtain ⟨hlt, rfl⟩ := List.getElem?_eq_some_iff.1 hj
    have hi : i = 0 := by
      have := (List.getElem?_eq_some_iff.1 hu).1
      simp at this
      exact this
    subst hi
    have h4 := h3 j (by rw [List.length_map]; exact hlt)
    simp only [List.getElem_map] at h4
    have : u = .int k xs[j] := by simpa using hu.symm
    subst this
    show w.cell? (Addr.add ⟨b, o, none⟩ (j * 1 + 0)) = _
    rw [Nat.mul_one, Nat.add_zero, ← h4]
    congr 1
    unfold Addr.add
    split <;> simp_all
theorem own_of_kd {w : World} {base e : Nat} {ok : Nat → Prop} {v : Value} {k : IntKind} {xs : List Int} (h : Kd.R (Kd.int k) e w base ok v xs) : w.ownsRow base e 1 v xs.length (xs.map (Value.int k)) := by
  obtain ⟨_, inner, h1, h2, h3⟩ := h
  have e1 : inner = xs.map (Value.int k) := by
    apply List.ext_getElem (by rw [h2, List.length_map]; show xs.length * 1 = _; omega)
    intro j h4 h5
    rw [List.length_map] at h5
    have h6 := h3 j xs[j] (List.getElem?_eq_getElem h5)
    have h7 : (inner.drop (j * 1)).take 1 = [.int k xs[j]] := h6
    rw [Nat.mul_one, List.drop_eq_getElem_cons h4, List.take_succ_cons, List.take_zero] at h7
    injection h7 with h8
    rw [h8, List.getElem_map]
  rw [e1] at h1
  exact h1
theorem rd_of_kd {w : World} {base e : Nat} {ok : Nat → Prop} {v : Value} {k : IntKind} {xs : List Int} (h : Kd.R (Kd.int k) e w base ok v xs) : Rd w v (xs.map (Value.int k)) := Rd.of_own (own_of_kd h)
theorem below_is {w w' : World} {n : Nat} (h : Below n w w') : Below n w w' := h
end Go.Proofs.Ytmjjnaaiakchhaa
