/-
  Contracts of package pack's functions over 32 bits.
-/
import Derived.Test.YtmjjnaaiakchhaaDoorPack
namespace Go.Proofs.YtmjjnaaiakchhaaDoor
open Go.RowKit

set_option maxHeartbeats 1000000 in
theorem lowu32_any (v : Value) (xs : List Int) (x n : Int) (w : World) (hr : Rd w v (bs xs)) (hl : xs.length ≤ 70368744177664) (_hx0 : 0 ≤ x) (h0 : 0 ≤ n) (hn : n ≤ 4) :
    Calls Tryd.prog 50 #[v, .int .u32 x, .int .i64 n] w fun e w' => NewB (xs ++ lowN x n.toNat) w e w' := by
  have hr0 := Lib.hid hr
  obtain ⟨A, c, rfl, _⟩ := hr
  obtain ⟨n, rfl⟩ := Int.eq_ofNat_of_zero_le h0
  simp only [Int.toNat_natCast]
  rw [bs_len] at hr0 ⊢
  go_enter Tryd.func50, Tryd.ntmps50
  go_wp2_with (at_builtin; refine wp_app _ _ 30 rfl rfl 5 (.int .u8 0) 1 Tryd.underlying30 info5 rfl w.heap.size rfl (World.ownsRow_nil _ _ _ _) rfl hr0.out (bs_one _) (by decide) (by rw [bs_len]; omega) (Nat.le_refl _) ?_; intro v' w1 hown1 _ hb1)
  simp only [Nat.zero_add, List.nil_append, bs_len] at hown1
  go_loopw [7, 12] (fun v i wr => ∃ k : Nat, k ≤ n ∧ i = .int .i64 k ∧ wr.ownsRow w.heap.size 5 1 v (xs.length + k) (bs (xs ++ lowN x k)) ∧ Below w.heap.size w wr) (fun _ i _ => n - (intOf i).toNat)
  case atStart => exact ⟨0, Nat.zero_le _, rfl, by simpa [lowN] using hown1, hb1⟩
  case round =>
    obtain ⟨k, hk, rfl, hown, hb⟩ := hrel
    by_cases hlt : k < n
    · have hsz := hb.size
      go_wp2_with (at_builtin; refine wp_app _ _ 30 rfl rfl 5 (.int .u8 0) 1 Tryd.underlying30 info5 rfl w.heap.size rfl (hown.alloc _) rfl (Rd.one _ _ _) (by intro y hy; simp at hy; subst hy; rfl) (by decide) (by simp; omega) (by simp; omega) ?_; intro v2 w2 hown2 _ hb2)
      go_roundw
      case rel => exact ⟨k + 1, by omega, by go_num, by simpa [lowN, bs, Nat.add_assoc] using hown2, (hb.alloc hsz _).trans hb2⟩
      case measure => simp [intOf]; omega
    · obtain rfl : k = n := by omega
      go_wp2
      go_ret
      exact ⟨_, rfl, hb, by rw [List.length_append, lowN_len]; exact hown⟩

set_option maxHeartbeats 400000 in
theorem putLe32_any (v : Value) (xs : List Int) (x : Int) (w : World) (hr : Rd w v (bs xs)) (hl : xs.length ≤ 70368744177664) (hx0 : 0 ≤ x) :
    Calls Tryd.prog 36 #[v, .int .u32 x] w fun e w' => NewB (xs ++ lowN x (32 / 8)) w e w' := by
  go_enter Tryd.func36, Tryd.ntmps36
  go_wp2_with (go_at_call 50; refine (lowu32_any _ xs _ _ _ hr hl hx0 (by omega) (by omega)).mono ?_; rintro e w' ⟨v', rfl, hb, ho⟩)
  go_ret
  exact ⟨_, rfl, hb, ho⟩

set_option maxHeartbeats 400000 in
theorem le32_any (v : Value) (xs : List Int) (at_ : Int) (w : World) (hr : Rd w v (bs xs)) (hx : IsB xs) (h0 : 0 ≤ at_) (h1 : at_ ≤ 4294967296) :
    Calls Tryd.prog 48 #[v, .int .i64 at_] w fun e w' => e = .returned (.int .u32 (leN xs at_.toNat 4)) ∧ w = w' := by
  have hb := leN_range hx at_.toNat 4
  have e4 : (256 : Int) ^ 4 = 4294967296 := by decide
  rw [e4] at hb
  go_enter Tryd.func48, Tryd.ntmps48
  go_wp2_with (go_at_call 65; refine (take_any _ xs _ _ _ hr hx h0 h1 (by omega) (by omega)).mono ?_; rintro e w' ⟨rfl, rfl⟩)
  go_ret
  exact ⟨rfl, rfl⟩
end Go.Proofs.YtmjjnaaiakchhaaDoor
