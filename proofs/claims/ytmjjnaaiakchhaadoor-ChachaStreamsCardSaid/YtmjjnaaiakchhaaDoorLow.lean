/-
  intaglioref01.Low: a number's bytes, the lowest first.
-/
import Derived.Test.YtmjjnaaiakchhaaDoorPack
namespace Go.Proofs.YtmjjnaaiakchhaaDoor
open Go.RowKit

theorem div_256 (x : Int) (k : Nat) : x / 2 ^ (8 * k) / 256 = x / 2 ^ (8 * (k + 1)) := by
  rw [Int.ediv_ediv_of_nonneg (by exact Int.pow_nonneg (by decide)), show 8 * (k + 1) = 8 * k + 8 from by omega, Int.pow_add, show (2 : Int) ^ 8 = 256 from by decide]
theorem div_pow_le (x : Int) (k : Nat) (h : 0 ≤ x ∧ x < 18446744073709551616) : 0 ≤ x / 2 ^ (8 * k) ∧ x / 2 ^ (8 * k) < 18446744073709551616 := by
  refine ⟨Int.ediv_nonneg h.1 (Int.pow_nonneg (by decide)), Int.lt_of_le_of_lt (Int.ediv_le_self _ h.1) h.2⟩

set_option maxHeartbeats 1000000 in
theorem rlow_any (x n : Int) (w : World) (hx0 : 0 ≤ x) (hx1 : x < 18446744073709551616) (h0 : 0 ≤ n) (hn : n ≤ 1000) :
    Calls Tryd.prog 39 #[.int .u64 x, .int .i64 n] w fun e w' => NewB (lowN x n.toNat) w e w' := by
  obtain ⟨n, rfl⟩ := Int.eq_ofNat_of_zero_le h0
  simp only [Int.toNat_natCast]
  go_enter Tryd.func39, Tryd.ntmps39
  go_wp2_with fail
  go_loopw [0, 5, 6] (fun x' v i wr => ∃ k : Nat, k ≤ n ∧ i = .int .i64 k ∧ x' = .int .u64 (x / 2 ^ (8 * k)) ∧ wr.ownsRow w.heap.size 5 1 v k (bs (lowN x k)) ∧ Below w.heap.size w wr) (fun _ _ i _ => n - (intOf i).toNat)
  case atStart => exact ⟨0, Nat.zero_le _, rfl, by simp, World.ownsRow_nil _ _ _ _, Below.refl _ _⟩
  case round =>
    obtain ⟨k, hk, rfl, rfl, hown, hb⟩ := hrel
    have hd := div_pow_le x k ⟨hx0, hx1⟩
    obtain ⟨y, hy⟩ : ∃ y, x / 2 ^ (8 * k) = y := ⟨_, rfl⟩
    rw [hy] at hd ⊢
    by_cases hlt : k < n
    · have hsz := hb.size
      have hy' := Lib.hid hy
      clear hy
      go_wp2_with (at_builtin; refine wp_app _ _ 30 rfl rfl 5 (.int .u8 0) 1 Tryd.underlying30 info5 rfl w.heap.size rfl (hown.alloc _) rfl (Rd.one _ _ _) (by intro y hy; simp at hy; subst hy; rfl) (by decide) (by simp; omega) (by simp; omega) ?_; intro v2 w2 hown2 _ hb2)
      go_roundw
      case rel =>
        refine ⟨k + 1, by omega, by go_num, ?_, by simpa [lowN, bs, hy'.out] using hown2, (hb.alloc hsz _).trans hb2⟩
        rw [← div_256, hy'.out]
      case measure => simp [intOf]; omega
    · obtain rfl : k = n := by omega
      clear hy
      go_wp2
      go_ret
      exact ⟨_, rfl, hb, by rw [lowN_len]; exact hown⟩
end Go.Proofs.YtmjjnaaiakchhaaDoor
