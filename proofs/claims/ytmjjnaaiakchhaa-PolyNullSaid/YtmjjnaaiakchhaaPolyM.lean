/-
  Poly1305 in numbers. Plain Lean, no program in sight.
-/
import Derived.Test.YtmjjnaaiakchhaaPack
namespace Go.Proofs.Ytmjjnaaiakchhaa
open Go.RowKit

/-- The number whose digits to 256 a list has, the lowest first. -/
def leV : List Int → Int
  | [] => 0
  | x :: r => x + 256 * leV r
/-- 2^130 - 5. -/
def pr : Int := 1361129467683753853853498429727072845819

theorem leV_range {xs : List Int} (h : IsB xs) : 0 ≤ leV xs ∧ leV xs < 256 ^ xs.length := by
  induction xs with
  | nil => simp [leV]
  | cons x r ih =>
    have hx := h x (by simp)
    have hr := ih fun y hy => h y (by simp [hy])
    simp only [leV, List.length_cons, Int.pow_succ]
    omega
theorem leV_append (xs ys : List Int) : leV (xs ++ ys) = leV xs + 256 ^ xs.length * leV ys := by
  induction xs with
  | nil => simp [leV]
  | cons x r ih =>
    simp only [List.cons_append, leV, ih, List.length_cons, Int.pow_succ]
    rw [Int.mul_add, Int.add_assoc, ← Int.mul_assoc, Int.mul_comm 256 (256 ^ r.length)]
theorem leV_zeros (n : Nat) : leV (List.replicate n 0) = 0 := by
  induction n with
  | zero => rfl
  | succ n ih => simp [List.replicate_succ, leV, ih]
/-- A number of n bytes, from a place on. -/
theorem leN_eq (xs : List Int) (a n : Nat) : leN xs a n = leV ((xs.drop a).take n ++ List.replicate (n - (xs.length - a)) 0) := by
  rw [leV_append, leV_zeros, Int.mul_zero, Int.add_zero]
  induction n with
  | zero => simp [leN, leV]
  | succ n ih =>
    rw [leN, ih]
    by_cases h : a + n < xs.length
    · rw [List.take_add_one, leV_append]
      have h1 : (xs.drop a)[n]? = some (xs.getD (a + n) 0) := by
        rw [List.getElem?_drop, List.getD_eq_getElem?_getD, List.getElem?_eq_getElem h]; rfl
      rw [h1, List.length_take, List.length_drop, Nat.min_eq_left (by omega)]
      simp only [Option.toList_some, leV]
      rw [Int.mul_zero, Int.add_zero, Int.mul_comm]
    · rw [List.getD_eq_getElem?_getD, List.getElem?_eq_none (by omega), List.take_of_length_le (by rw [List.length_drop]; omega), List.take_of_length_le (by rw [List.length_drop]; omega)]
      simp
theorem leV_lowN (x : Int) (n : Nat) (h : 0 ≤ x) : leV (lowN x n) = x % 256 ^ n := by
  induction n with
  | zero => simp [lowN, leV, Int.emod_one]
  | succ n ih =>
    rw [lowN, leV_append, ih, lowN_len]
    simp only [leV]
    rw [Int.mul_zero, Int.add_zero, Int.pow_succ]
    have e : (2 : Int) ^ (8 * n) = 256 ^ n := by rw [Int.pow_mul]; rfl
    obtain ⟨X, rfl⟩ := Int.eq_ofNat_of_zero_le h
    have h1 : (256 : Int) ^ n = ((256 ^ n : Nat) : Int) := by rw [Int.natCast_pow]; rfl
    rw [e, h1, show (256 : Int) = ((256 : Nat) : Int) from rfl]
    have := Nat.mod_mul (a := 256 ^ n) (b := 256) (x := X)
    generalize 256 ^ n = q at *
    have h2 : ((q : Nat) : Int) * ((256 : Nat) : Int) = ((q * 256 : Nat) : Int) := by rw [Int.natCast_mul]
    rw [h2, ← Int.natCast_emod, ← Int.natCast_emod, this, Int.natCast_add, Int.natCast_mul, ← Int.natCast_ediv]
    rfl
/-- Digits are known by their number. -/
theorem leV_inj : ∀ {xs ys : List Int}, IsB xs → IsB ys → xs.length = ys.length → leV xs = leV ys → xs = ys
  | [], [], _, _, _, _ => rfl
  | x :: xs, y :: ys, hx, hy, hl, h => by
    have h1 := hx x (by simp)
    have h2 := hy y (by simp)
    simp only [leV] at h
    obtain rfl : x = y := by omega
    have h3 := leV_inj (xs := xs) (ys := ys) (fun z hz => hx z (by simp [hz])) (fun z hz => hy z (by simp [hz])) (by simpa using hl) (by omega)
    rw [h3]

/-- What is summed behind k pieces. -/
def hK (r : Int) (xs : List Int) : Nat → Int
  | 0 => 0
  | k + 1 => (hK r xs k + leV ((xs.drop (16 * k)).take 16 ++ [1])) * r % pr
theorem hK_range (r : Int) (xs : List Int) (k : Nat) : 0 ≤ hK r xs k ∧ hK r xs k < pr := by
  cases k with
  | zero => exact ⟨Int.le_refl _, by show (0 : Int) < pr; decide⟩
  | succ k => exact ⟨Int.emod_nonneg _ (by decide), Int.emod_lt_of_pos _ (by decide)⟩
theorem hK_append (r : Int) (xs ys : List Int) (k : Nat) (h : 16 * k ≤ xs.length) : hK r (xs ++ ys) k = hK r xs k := by
  induction k with
  | zero => rfl
  | succ k ih =>
    rw [hK, hK, ih (by omega), List.drop_append_of_le_length (by omega), List.take_append_of_le_length (by rw [List.length_drop]; omega)]
theorem hK_zero (xs : List Int) (k : Nat) : hK 0 xs k = 0 := by
  cases k with
  | zero => rfl
  | succ k => rw [hK, Int.mul_zero]; rfl

/-- The bits of a key that count. -/
def clampL (key : List Int) : List Int := (List.range 16).map fun i => if i % 4 = 3 then key.getD i 0 % 16 else if 0 < i ∧ i % 4 = 0 then key.getD i 0 / 4 * 4 else key.getD i 0
/-- The sum of a text. -/
def tagL (key xs : List Int) : List Int := lowN (hK (leV (clampL key)) xs ((xs.length + 15) / 16) + leV ((key.drop 16).take 16)) 16
end Go.Proofs.Ytmjjnaaiakchhaa
