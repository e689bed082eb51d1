/-
  math/bits.Mul64.
-/
import Derived.Test.YtmjjnaaiakchhaaPPolySumx1
import Derived.Test.YtmjjnaaiakchhaaBig
import Derived.Laws.BitsAllLaws
import Derived.Lib.Mul64
namespace Go.Proofs.Ytmjjnaaiakchhaa
open Go.RowKit PPolySum Go.Proofs.YtmjjnaaiakchhaaW.PrintWords

theorem mask32 (n : Nat) (h : n < 18446744073709551616) : bits .and .u64 (n : Int) 4294967295 = ((n % 4294967296 : Nat) : Int) := by
  have h1 := u64_and_nat n 4294967295 h (by decide)
  rw [show ((4294967295 : Nat) : Int) = 4294967295 from rfl] at h1
  rw [h1, show (4294967295 : Nat) = 2 ^ 32 - 1 from rfl, Nat.and_two_pow_sub_one_eq_mod]
theorem mul64_f (X Y : Nat) (hX : X < 18446744073709551616) (hY : Y < 18446744073709551616) : bits_Mul64.f (X : Int) (Y : Int) = some (((X * Y / 18446744073709551616 : Nat) : Int), ((X * Y % 18446744073709551616 : Nat) : Int)) := by
  obtain ⟨h1, h2, h3, h4⟩ := Lib.mul64_hi X Y hX hY
  have hb := Lib.half_mul_le (a := X / 4294967296) (b := Y % 4294967296) (by omega) (by omega)
  have ha := Lib.half_mul_le (a := X / 4294967296) (b := Y / 4294967296) (by omega) (by omega)
  have hc := Lib.half_mul_le (a := X % 4294967296) (b := Y / 4294967296) (by omega) (by omega)
  have hhi : X * Y / 18446744073709551616 < 18446744073709551616 := by
    rw [Nat.div_lt_iff_lt_mul (by decide)]
    have h5 : X * Y ≤ 18446744073709551615 * Y := Nat.mul_le_mul_right _ (by omega)
    omega
  have wr : ∀ n : Nat, n < 18446744073709551616 → IntKind.u64.wrap (n : Int) = (n : Int) := fun n h => by rw [IntKind.wrap_u64]; omega
  have d : ∀ n : Nat, (n : Int) / 4294967296 = ((n / 4294967296 : Nat) : Int) := fun n => by omega
  have m : ∀ a b : Nat, (a : Int) * (b : Int) = ((a * b : Nat) : Int) := fun a b => by rw [Int.natCast_mul]
  have s : ∀ a b : Nat, (a : Int) + (b : Int) = ((a + b : Nat) : Int) := fun a b => by rw [Int.natCast_add]
  have elo : IntKind.u64.wrap ((X * Y : Nat) : Int) = ((X * Y % 18446744073709551616 : Nat) : Int) := by rw [IntKind.wrap_u64]; omega
  unfold bits_Mul64.f
  rw [mask32 X hX, mask32 Y hY, d X, d Y, m, m, m, m, m, elo, wr _ (by omega), wr _ (by omega), wr (X % 4294967296 * (Y % 4294967296)) (by omega), wr (X % 4294967296 * (Y / 4294967296)) (by omega), d, s, wr _ h2, d, mask32 _ h2, s, s]
  generalize X / 4294967296 * (Y / 4294967296) = a at *
  generalize X / 4294967296 * (Y % 4294967296) + X % 4294967296 * (Y % 4294967296) / 4294967296 = t at *
  generalize X % 4294967296 * (Y / 4294967296) = c at *
  rw [wr (a + t / 4294967296) (by omega), wr (t % 4294967296 + c) (by omega), d, s, wr _ (by omega), h4]
theorem mul64_any (w : World) (x y : Int) (hx : 0 ≤ x ∧ x ≤ 18446744073709551615) (hy : 0 ≤ y ∧ y ≤ 18446744073709551615) : Calls Try.prog 47 #[.int .u64 x, .int .u64 y] w fun e w' => e = .returned (.tuple #[.int .u64 (x * y / 18446744073709551616), .int .u64 (x * y % 18446744073709551616)]) ∧ Below w.heap.size w w' := by
  obtain ⟨X, rfl⟩ := Int.eq_ofNat_of_zero_le hx.1
  obtain ⟨Y, rfl⟩ := Int.eq_ofNat_of_zero_le hy.1
  refine (bits_Mul64.calls X Y _ _ w (mul64_f X Y (by omega) (by omega))).mono ?_
  rintro e w' ⟨rfl, h⟩
  refine ⟨?_, Drawn0.below h⟩
  rw [Int.natCast_ediv, Int.natCast_emod, Int.natCast_mul]
  rfl
end Go.Proofs.Ytmjjnaaiakchhaa
