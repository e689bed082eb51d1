/-
  intaglioref11.Turn: a frame with a byte turned, by definition.
-/
import Derived.Test.YtlgcnnhlbkidmaaTurn
namespace Go.Proofs.Ytlgcnnhlbkidmaa
open Go.RowKit

theorem turnB_len (xs : List Int) (a b : Int) : (turnB xs a b).length = xs.length := by simp [turnB]
theorem take_one (ys : List Int) (k : Nat) (h : k < ys.length) : ys.take (k + 1) = ys.take k ++ [ys.getD k 0] := by
  rw [List.take_add_one, List.getElem?_eq_getElem h, List.getD_eq_getElem?_getD, List.getElem?_eq_getElem h]; rfl

set_option maxHeartbeats 1000000 in
theorem rturn_any (v : Value) (xs : List Int) (at_ by_ : Int) (w : World) (hr : Rd w v (bs xs)) (hl : xs.length ≤ 70368744177664) :
    Calls Try.prog 20 #[v, .int .i64 at_, .int .u8 by_] w fun e w' => NewB (turnB xs at_ by_) w e w' := by
  have hr0 := Lib.hid hr
  obtain ⟨A, c, rfl, hc1, hc2, h00, hcell⟩ := hr
  rw [bs_len] at hc1 hr0 ⊢
  obtain ⟨ys, hys⟩ : ∃ ys, turnB xs at_ by_ = ys := ⟨_, rfl⟩
  have hyl : ys.length = xs.length := by rw [← hys, turnB_len]
  have HY := Lib.hid (fun _ : Unit => hys)
  have HYL := Lib.hid hyl
  rw [hys]
  clear hys hyl
  go_enter Try.func20, Try.ntmps20
  go_wp2_with fail
  go_loopw [7, 8] (fun u i wr => ∃ k : Nat, k ≤ xs.length ∧ i = .int .i64 k ∧ wr.ownsRow w.heap.size 5 1 u k (bs (ys.take k)) ∧ Below w.heap.size w wr) (fun _ i _ => xs.length - (intOf i).toNat)
  case atStart => exact ⟨0, Nat.zero_le _, rfl, by simpa [bs] using World.ownsRow_nil _ _ _ _, Below.refl _ _⟩
  case round =>
    obtain ⟨k, hk, rfl, hown, hb⟩ := hrel
    by_cases hlt : k < xs.length
    · have hsz := hb.size
      have hrr : Rd wr (.slice A xs.length c) (bs xs) := hr0.out.stay hb (Nat.le_refl _)
      obtain ⟨b, o, rfl, hc⟩ : ∃ b o, A = some ⟨b, o, none⟩ ∧ wr.cell? ⟨b, o + k, none⟩ = some (.int .u8 (xs.getD k 0)) := by
        obtain ⟨A', c', he, _, _, _, h3⟩ := hrr
        injection he with he1 he2 he3
        subst he1
        rcases h3 with h3 | ⟨b, o, rfl, h3⟩
        · have h5 : xs.length = 0 := by rw [← bs_len xs, h3]; rfl
          omega
        · exact ⟨b, o, rfl, by rw [h3 k (by simpa [bs] using hlt)]; simp [bs, List.getD_eq_getElem?_getD, hlt]⟩
      have hn : (0 : Int) < xs.length := by omega
      have hp := Int.emod_nonneg at_ (show (18446744073709551616 : Int) ≠ 0 by decide)
      obtain ⟨t, ht⟩ : ∃ t, t = turnAt xs.length at_ := ⟨_, rfl⟩
      have hjz : (IntKind.u64.wrap at_).tmod (xs.length : Int) = (t : Int) := by
        rw [show IntKind.u64.wrap at_ = at_ % 18446744073709551616 by simp [IntKind.wrap, IntKind.bits, IntKind.signed], Int.tmod_eq_emod_of_nonneg hp, ht, turnAt]
        have := Int.emod_nonneg (at_ % 18446744073709551616) (show (xs.length : Int) ≠ 0 by omega)
        omega
      have HT : ys.getD k 0 = if k = t then bits .xor .u8 (xs.getD k 0) by_ else xs.getD k 0 := by
        rw [← HY.out (), turnB, ← ht]
        by_cases hkt : k = t
        · subst hkt; simp [List.getD_eq_getElem?_getD, hlt]
        · simp [List.getD_eq_getElem?_getD, hkt, List.getElem?_set_ne (Ne.symm hkt)]
      have HG := Lib.hid HT
      have HK := Lib.hid (take_one ys k (by rw [HYL.out]; omega))
      clear HT ht hcell h00
      by_cases hkt : k = t
      · subst hkt
        go_wp2_with (at_builtin; refine wp_app _ _ 22 rfl rfl 5 (.int .u8 0) 1 Try.underlying22 info5 rfl w.heap.size rfl (hown.alloc _) rfl (Rd.one _ _ _) (by intro y hy; simp at hy; subst hy; rfl) (by decide) (by simp; omega) (by simp; omega) ?_; intro v2 w2 hown2 _ hb2)
        refine ⟨⟨k + 1, by omega, by go_num, ?_, (hb.alloc hsz _).trans hb2⟩, by simp [intOf]; omega⟩
        rw [HK.out, HG.out, if_pos rfl, bs_append]
        simpa [bs, List.getD_eq_getElem?_getD, hlt] using hown2
      · have hkz : ¬ ((k : Int) = (t : Int)) := by omega
        go_wp2_with (at_builtin; refine wp_app _ _ 22 rfl rfl 5 (.int .u8 0) 1 Try.underlying22 info5 rfl w.heap.size rfl (hown.alloc _) rfl (Rd.one _ _ _) (by intro y hy; simp at hy; subst hy; rfl) (by decide) (by simp; omega) (by simp; omega) ?_; intro v2 w2 hown2 _ hb2)
        refine ⟨⟨k + 1, by omega, by go_num, ?_, (hb.alloc hsz _).trans hb2⟩, by simp [intOf]; omega⟩
        rw [HK.out, HG.out, if_neg hkt, bs_append]
        simpa [bs, List.getD_eq_getElem?_getD, hlt] using hown2
    · obtain rfl : k = xs.length := by omega
      go_wp2
      go_ret
      refine ⟨_, rfl, hb, ?_⟩
      have := HYL.out
      rw [List.take_of_length_le (by omega)] at hown
      rw [this]
      exact hown
end Go.Proofs.Ytlgcnnhlbkidmaa
