/-
  The two beginnings are one: what chacha.first makes is what intaglioref02.begin makes. Plain.
-/
import Derived.Test.YtmjjnaaiakchhaaDoorBegin
namespace Go.Proofs.YtmjjnaaiakchhaaDoor

theorem plus_at (xs s : List Int) (at_ i j : Nat) (hj : j < 4) : plusK xs at_ (4 * i + j) s = s.set (at_ + i) ((s.getD (at_ + i) 0 + xs.getD (4 * i + j) 0 % 4294967296 * 2 ^ (8 * j)) % 4294967296) := by
  rw [plusK, show (4 * i + j) / 4 = i from by omega, show (4 * i + j) % 4 = j from by omega]
theorem getD_set_same (s : List Int) (i : Nat) (x : Int) (h : i < s.length) : (s.set i x).getD i 0 = x := by
  simp [List.getD_eq_getElem?_getD, h]
theorem getD_set_other (s : List Int) (i j : Nat) (x : Int) (h : i ≠ j) : (s.set i x).getD j 0 = s.getD j 0 := by
  simp [List.getD_eq_getElem?_getD, List.getElem?_set_ne h]
theorem four (xs s : List Int) (at_ i : Nat) (hb : IsB xs) (hl : at_ + i < s.length) (h0 : s.getD (at_ + i) 0 = 0) :
    plusK xs at_ (4 * i + 3) (plusK xs at_ (4 * i + 2) (plusK xs at_ (4 * i + 1) (plusK xs at_ (4 * i + 0) s))) = s.set (at_ + i) (leN xs (4 * i) 4) := by
  rw [plus_at _ _ _ _ 0 (by decide), plus_at _ _ _ _ 1 (by decide), plus_at _ _ _ _ 2 (by decide), plus_at _ _ _ _ 3 (by decide), h0]
  simp only [List.set_set, getD_set_same _ _ _ hl]
  congr 1
  have b0 := hb.at_ (4 * i + 0)
  have b1 := hb.at_ (4 * i + 1)
  have b2 := hb.at_ (4 * i + 2)
  have b3 := hb.at_ (4 * i + 3)
  simp only [leN, Nat.add_zero] at *
  generalize xs.getD (4 * i) 0 = x0 at *
  generalize xs.getD (4 * i + 1) 0 = x1 at *
  generalize xs.getD (4 * i + 2) 0 = x2 at *
  generalize xs.getD (4 * i + 3) 0 = x3 at *
  omega
theorem firstK_zero (key : List Int) (i j : Nat) (hj : i ≤ j) (hj2 : j < 12) : (firstK key i).getD (4 + j) 0 = 0 := by
  induction i with
  | zero =>
    have : ∀ j : Nat, j < 12 → (firstK [] 0).getD (4 + j) 0 = 0 := by decide
    exact this j hj2
  | succ i ih => rw [firstK, getD_set_other _ _ _ _ (by omega)]; exact ih (by omega)
theorem firstN_zero (key : List Int) (c : Int) (nonce : List Int) (i j : Nat) (hj : i ≤ j) (hj2 : j < 3) : (firstN key c nonce i).getD (13 + j) 0 = 0 := by
  induction i with
  | zero =>
    rw [firstN, getD_set_other _ _ _ _ (by omega), show 13 + j = 4 + (9 + j) from by omega]
    exact firstK_zero key 8 (9 + j) (by omega) (by omega)
  | succ i ih => rw [firstN, getD_set_other _ _ _ _ (by omega)]; exact ih (by omega)
theorem beginK_first (key : List Int) (hb : IsB key) (i : Nat) (hi : i ≤ 8) : beginK key (4 * i) = firstK key i := by
  induction i with
  | zero => rfl
  | succ i ih =>
    show plusK key 4 (4 * i + 3) (plusK key 4 (4 * i + 2) (plusK key 4 (4 * i + 1) (plusK key 4 (4 * i + 0) (beginK key (4 * i))))) = _
    rw [ih (by omega), four key _ 4 i hb (by rw [firstK_len]; omega) (firstK_zero key i i (Nat.le_refl _) (by omega))]
    rfl
theorem beginN_first (key : List Int) (c : Int) (nonce : List Int) (hb : IsB key) (hn : IsB nonce) (i : Nat) (hi : i ≤ 3) : beginN key c nonce (4 * i) = firstN key c nonce i := by
  induction i with
  | zero =>
    show (beginK key (4 * 8)).set 12 c = _
    rw [beginK_first key hb 8 (Nat.le_refl _)]
    rfl
  | succ i ih =>
    show plusK nonce 13 (4 * i + 3) (plusK nonce 13 (4 * i + 2) (plusK nonce 13 (4 * i + 1) (plusK nonce 13 (4 * i + 0) (beginN key c nonce (4 * i))))) = _
    rw [ih (by omega), four nonce _ 13 i hn (by rw [firstN_len]; omega) (firstN_zero key c nonce i i (Nat.le_refl _) (by omega))]
    rfl
theorem first_begin (key : List Int) (c : Int) (nonce : List Int) (hb : IsB key) (hn : IsB nonce) : firstN key c nonce 3 = beginN key c nonce 12 := (beginN_first key c nonce hb hn 3 (Nat.le_refl _)).symm
end Go.Proofs.YtmjjnaaiakchhaaDoor
