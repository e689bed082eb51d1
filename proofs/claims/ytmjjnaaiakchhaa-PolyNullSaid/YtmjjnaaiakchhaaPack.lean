/-
  Contracts of package pack's functions that lay and take numbers.
-/
import Derived.Test.YtmjjnaaiakchhaaBytes
namespace Go.Proofs.Ytmjjnaaiakchhaa
open Go.RowKit

/-- The number of n bytes from a place on, the lowest first; what is not there counts 0. -/
def leN (xs : List Int) (a : Nat) : Nat → Int
  | 0 => 0
  | i + 1 => leN xs a i + xs.getD (a + i) 0 * 256 ^ i

theorem leN_range {xs : List Int} (h : IsB xs) (a : Nat) (n : Nat) : 0 ≤ leN xs a n ∧ leN xs a n < 256 ^ n := by
  induction n with
  | zero => simp [leN]
  | succ n ih =>
    have hb := h.at_ (a + n)
    have hp : (0 : Int) < 256 ^ n := Int.pow_pos (by decide)
    simp only [leN]
    have h1 : xs.getD (a + n) 0 * 256 ^ n ≤ 255 * 256 ^ n := Int.mul_le_mul_of_nonneg_right hb.2 (by omega)
    have h2 : 0 ≤ xs.getD (a + n) 0 * 256 ^ n := Int.mul_nonneg hb.1 (by omega)
    have h3 : (256 : Int) ^ (n + 1) = 256 * 256 ^ n := by rw [Int.pow_succ, Int.mul_comm]
    omega

theorem or_low (x z : Int) (k : Nat) (hk : k ≤ 7) (hx : 0 ≤ x ∧ x < 256 ^ k) (hz : 0 ≤ z ∧ z ≤ 255) :
    bits .or .u64 x (IntKind.u64.wrap (z * 2 ^ (8 * k))) = x + z * 256 ^ k := by
  obtain ⟨X, rfl⟩ := Int.eq_ofNat_of_zero_le hx.1
  obtain ⟨Z, rfl⟩ := Int.eq_ofNat_of_zero_le hz.1
  have e : (256 : Nat) ^ k = 2 ^ (8 * k) := (Nat.pow_mul 2 8 k).symm
  have hX : X < 2 ^ (8 * k) := by rw [← e]; have h := hx.2; exact Int.ofNat_lt.1 (by rw [Int.natCast_pow]; exact h)
  have hp : 2 ^ (8 * k) ≤ 2 ^ 56 := Nat.pow_le_pow_right (by decide) (by omega)
  have hZ : Z ≤ 255 := by omega
  have hY : Z * 2 ^ (8 * k) ≤ 255 * 2 ^ 56 := Nat.mul_le_mul hZ hp
  have h1 : IntKind.u64.wrap ((Z : Int) * 2 ^ (8 * k)) = ((Z * 2 ^ (8 * k) : Nat) : Int) := by
    rw [IntKind.wrap_u64]
    have e2 : (Z : Int) * 2 ^ (8 * k) = ((Z * 2 ^ (8 * k) : Nat) : Int) := by rw [Int.natCast_mul, Int.natCast_pow]; rfl
    rw [e2]; omega
  rw [h1, u64_or_nat X (Z * 2 ^ (8 * k)) (by omega) (by omega), Nat.or_comm, nat_join (8 * k) _ X (Nat.mul_mod_left _ _) hX, ← e]
  rw [Int.natCast_add, Int.natCast_mul, Int.natCast_pow, Int.add_comm]; rfl

set_option maxHeartbeats 400000 in
theorem take_any (v : Value) (xs : List Int) (at_ n : Int) (w : World) (hr : Rd w v (bs xs)) (hx : IsB xs) (h0 : 0 ≤ at_) (h1 : at_ ≤ 4294967296) (hn0 : 0 ≤ n) (hn : n ≤ 8) :
    Calls Try.prog 37 #[v, .int .i64 at_, .int .i64 n] w fun e w' => e = .returned (.int .u64 (leN xs at_.toNat n.toNat)) ∧ w = w' := by
  obtain ⟨A, c, rfl, hc1, hc2, _, hcell⟩ := hr
  obtain ⟨a, rfl⟩ := Int.eq_ofNat_of_zero_le h0
  obtain ⟨n, rfl⟩ := Int.eq_ofNat_of_zero_le hn0
  rw [bs_len] at *
  unfold maxLen at hc2
  simp only [Int.toNat_natCast]
  go_enter Try.func37, Try.ntmps37
  go_wp2
  go_loop [7, 10] (fun x i => ∃ k : Nat, k ≤ n ∧ i = .int .i64 k ∧ x = .int .u64 (leN xs a k)) (fun _ i => n - (intOf i).toNat)
  case atStart => exact ⟨0, Nat.zero_le _, rfl, rfl⟩
  case round =>
    obtain ⟨k, hk, rfl, rfl⟩ := hrel
    by_cases hlt : k < n
    · by_cases hin : a + k < xs.length
      · rcases hcell with h | ⟨b, o, rfl, hcell⟩
        · simp [bs] at h; subst h; simp at hin
        have hc : w.cell? ⟨b, o + (a + k), none⟩ = some (.int .u8 (xs.getD (a + k) 0)) := by
          rw [hcell (a + k) (by rw [bs_len]; exact hin)]; simp [bs, List.getD_eq_getElem?_getD, hin]
        clear hcell
        have hby := hx.at_ (a + k)
        generalize hz : xs.getD (a + k) 0 = z at *
        have HZ := Lib.hid hz
        clear hz
        have hor := or_low (leN xs a k) z k (by omega) (leN_range hx a k) hby
        go_wp2
        go_round
        case rel => exact ⟨k + 1, by omega, by go_num, by rw [leN, HZ.out]⟩
        case measure => simp [intOf]; omega
      · have hz : leN xs a (k + 1) = leN xs a k := by
          rw [leN, List.getD_eq_getElem?_getD, List.getElem?_eq_none (by omega)]; simp
        have HZ := Lib.hid hz
        clear hz
        go_wp2
        go_round
        case rel => exact ⟨k + 1, by omega, by go_num, by rw [HZ.out]⟩
        case measure => simp [intOf]; omega
    · obtain rfl : k = n := by omega
      go_wp2
      go_ret
      exact ⟨rfl, rfl⟩

set_option maxHeartbeats 400000 in
theorem le64_any (v : Value) (xs : List Int) (at_ : Int) (w : World) (hr : Rd w v (bs xs)) (hx : IsB xs) (h0 : 0 ≤ at_) (h1 : at_ ≤ 4294967296) :
    Calls Try.prog 24 #[v, .int .i64 at_] w fun e w' => e = .returned (.int .u64 (leN xs at_.toNat 8)) ∧ w = w' := by
  go_enter Try.func24, Try.ntmps24
  go_wp2_with (go_at_call 37; refine (take_any _ xs _ _ _ hr hx h0 h1 (by omega) (by omega)).mono ?_; rintro e w' ⟨rfl, rfl⟩)
  go_ret
  exact ⟨rfl, rfl⟩

/-- A number's n bytes, the lowest first. -/
def lowN (x : Int) : Nat → List Int
  | 0 => []
  | n + 1 => lowN x n ++ [x / 2 ^ (8 * n) % 256]
theorem lowN_len (x : Int) (n : Nat) : (lowN x n).length = n := by induction n with | zero => rfl | succ n ih => simp [lowN, ih]
theorem lowN_isB (x : Int) (n : Nat) : IsB (lowN x n) := by
  induction n with
  | zero => intro y hy; simp [lowN] at hy
  | succ n ih =>
    intro y hy
    rw [lowN, List.mem_append] at hy
    rcases hy with hy | hy
    · exact ih y hy
    · obtain rfl : y = _ := by simpa using hy
      omega

set_option maxHeartbeats 1000000 in
theorem lowu64_any (v : Value) (xs : List Int) (x n : Int) (w : World) (hr : Rd w v (bs xs)) (hl : xs.length ≤ 70368744177664) (_hx0 : 0 ≤ x) (h0 : 0 ≤ n) (hn : n ≤ 8) :
    Calls Try.prog 42 #[v, .int .u64 x, .int .i64 n] w fun e w' => NewB (xs ++ lowN x n.toNat) w e w' := by
  have hr0 := Lib.hid hr
  obtain ⟨A, c, rfl, _⟩ := hr
  obtain ⟨n, rfl⟩ := Int.eq_ofNat_of_zero_le h0
  simp only [Int.toNat_natCast]
  rw [bs_len] at hr0 ⊢
  go_enter Try.func42, Try.ntmps42
  go_wp2_with (at_builtin; refine wp_app _ _ 33 rfl rfl 5 (.int .u8 0) 1 Try.underlying33 info5 rfl w.heap.size rfl (World.ownsRow_nil _ _ _ _) rfl hr0.out (bs_one _) (by decide) (by rw [bs_len]; omega) (Nat.le_refl _) ?_; intro v' w1 hown1 _ hb1)
  simp only [Nat.zero_add, List.nil_append, bs_len] at hown1
  go_loopw [7, 12] (fun v i wr => ∃ k : Nat, k ≤ n ∧ i = .int .i64 k ∧ wr.ownsRow w.heap.size 5 1 v (xs.length + k) (bs (xs ++ lowN x k)) ∧ Below w.heap.size w wr) (fun _ i _ => n - (intOf i).toNat)
  case atStart => exact ⟨0, Nat.zero_le _, rfl, by simpa [lowN] using hown1, hb1⟩
  case round =>
    obtain ⟨k, hk, rfl, hown, hb⟩ := hrel
    by_cases hlt : k < n
    · have hsz := hb.size
      go_wp2_with (at_builtin; refine wp_app _ _ 33 rfl rfl 5 (.int .u8 0) 1 Try.underlying33 info5 rfl w.heap.size rfl (hown.alloc _) rfl (Rd.one _ _ _) (by intro y hy; simp at hy; subst hy; rfl) (by decide) (by simp; omega) (by simp; omega) ?_; intro v2 w2 hown2 _ hb2)
      go_roundw
      case rel => exact ⟨k + 1, by omega, by go_num, by simpa [lowN, bs, Nat.add_assoc] using hown2, (hb.alloc hsz _).trans hb2⟩
      case measure => simp [intOf]; omega
    · obtain rfl : k = n := by omega
      go_wp2
      go_ret
      exact ⟨_, rfl, hb, by rw [List.length_append, lowN_len]; exact hown⟩

set_option maxHeartbeats 400000 in
theorem putLe64_any (v : Value) (xs : List Int) (x : Int) (w : World) (hr : Rd w v (bs xs)) (hl : xs.length ≤ 70368744177664) (hx0 : 0 ≤ x) :
    Calls Try.prog 30 #[v, .int .u64 x] w fun e w' => NewB (xs ++ lowN x (64 / 8)) w e w' := by
  go_enter Try.func30, Try.ntmps30
  go_wp2_with (go_at_call 42; refine (lowu64_any _ xs _ _ _ hr hl hx0 (by omega) (by omega)).mono ?_; rintro e w' ⟨v', rfl, hb, ho⟩)
  go_ret
  exact ⟨_, rfl, hb, ho⟩
end Go.Proofs.Ytmjjnaaiakchhaa
