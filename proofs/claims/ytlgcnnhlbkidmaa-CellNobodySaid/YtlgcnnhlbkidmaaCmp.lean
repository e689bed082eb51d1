/-
  cmp.Compare[int], cmp.Or[int]; pins: cell.Less and intaglioref10.Less.
-/
import Derived.Test.YtlgcnnhlbkidmaaSub
import Derived.Test.YtlgcnnhlbkidmaaFlow
import Derived.Deep.DeepCutAuto
import Derived.Deep.QuietTactic
import Derived.BigQuiet
namespace Go.Proofs.Ytlgcnnhlbkidmaa
open Go.RowKit

def cmpI (x y : Int) : Int := if x < y then -1 else if y < x then 1 else 0

set_option maxHeartbeats 400000 in
theorem nan_any (x : Int) (w : World) : Calls Try.prog 85 #[.int .i64 x] w fun e w' => e = .returned (.bool false) ∧ w = w' := by
  go_enter Try.func85, Try.ntmps85
  go_wp2_with fail
  go_ret
  exact ⟨rfl, rfl⟩

set_option maxHeartbeats 400000 in
theorem compare_any (x y : Int) (w : World) : Calls Try.prog 71 #[.int .i64 x, .int .i64 y] w fun e w' => e = .returned (.int .i64 (cmpI x y)) ∧ w = w' := by
  go_enter Try.func71, Try.ntmps71
  go_wp2_with (go_at_call 85; refine (nan_any _ _).mono ?_; rintro e w' ⟨rfl, rfl⟩)
  all_goals (go_ret; refine ⟨?_, rfl⟩; first
    | (rw [cmpI, if_pos (by omega)]; rfl)
    | (rw [cmpI, if_neg (by omega), if_pos (by omega)]; rfl)
    | (rw [cmpI, if_neg (by omega), if_neg (by omega)]; rfl))

theorem or2_any (v : Value) (x y : Int) (w : World) (hr : Rd w v [.int .i64 x, .int .i64 y]) : Calls Try.prog 70 #[v] w fun e w' => e = .returned (.int .i64 (if x = 0 then y else x)) ∧ w = w' := by
  obtain ⟨A, c, rfl, hc1, hc2, h0, h3⟩ := hr
  rcases h3 with h3 | ⟨b, o, rfl, h3⟩
  · simp at h3
  have c0 : w.cell? ⟨b, o, none⟩ = some (.int .i64 x) := by simpa using h3 0 (by simp)
  have c1 : w.cell? ⟨b, o + 1, none⟩ = some (.int .i64 y) := by simpa using h3 1 (by simp)
  go_enter Try.func70, Try.ntmps70
  go_wp2_with fail
  simp only [List.length_cons, List.length_nil, Nat.zero_add, Nat.reduceAdd] at hc1 ⊢
  clear h3 h0
  go_loop [8] (fun i => ∃ k : Nat, k ≤ 2 ∧ i = .int .i64 k ∧ (1 ≤ k → x = 0) ∧ (2 ≤ k → y = 0)) (fun i => 2 - (intOf i).toNat)
  case atStart => exact ⟨0, by omega, rfl, by omega, by omega⟩
  case round =>
    obtain ⟨k, hk, rfl, hx, hy⟩ := hrel
    match k, hk with
    | 0, _ =>
      by_cases hx0 : x = 0
      · subst hx0
        go_wp2_with fail
        exact ⟨⟨1, by omega, rfl, fun _ => (by trivial), by omega⟩, by simp [intOf]⟩
      · have hb : (x != 0) = true := by simpa using hx0
        go_wp2_with fail
        all_goals (go_ret; exact ⟨by simp, rfl⟩)
    | 1, _ =>
      obtain rfl := hx (Nat.le_refl _)
      by_cases hy0 : y = 0
      · subst hy0
        go_wp2_with fail
        exact ⟨⟨2, by omega, rfl, fun _ => (by trivial), fun _ => (by trivial)⟩, by simp [intOf]⟩
      · have hb : (y != 0) = true := by simpa using hy0
        go_wp2_with fail
        all_goals (go_ret; exact ⟨by simp, rfl⟩)
    | 2, _ =>
      obtain rfl := hx (by omega)
      obtain rfl := hy (by omega)
      go_wp2_with fail
      all_goals (go_ret; exact ⟨by simp, rfl⟩)
end Go.Proofs.Ytlgcnnhlbkidmaa
