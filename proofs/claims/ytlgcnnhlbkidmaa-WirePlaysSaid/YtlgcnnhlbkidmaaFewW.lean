/-
  The law's small bound on acts.
-/
import Derived.Test.YtlgcnnhlbkidmaaPlaysW
namespace Go.Proofs.Ytlgcnnhlbkidmaa
open Go.ChangeShapes Go.WideShapes Go.ChangeAt Go.RowKit Go.Conc

set_option maxRecDepth 100000 in
set_option maxHeartbeats 1000000 in
theorem few11_any (w : World) (v : Value) (n : Nat) (f : Nat → List Value) (he : Els w v n 4 f) (ha : ∀ i, i < n → ActW w (f i)) :
    Calls Try.prog 32 #[v] w fun e w' => ∃ b : Bool, e = .returned (.bool b) ∧ w = w' := by
  have hmx := he.len
  obtain ⟨A0, c0, rfl, hc0, hc0m, _, H3⟩ := he
  have H3 := Lib.hid H3
  have HA := Lib.hid ha
  clear ha
  go_enter Try.func32, Try.ntmps32
  by_cases h60 : (60 : Int) < n
  · go_wp2_with fail
    all_goals go_ret
    exact ⟨_, rfl, rfl⟩
  go_upto_region 4 with fail
  go_wp2_with fail
  go_loopw [3] (fun x wr => ∃ k : Nat, k ≤ n ∧ x = .int .i64 k ∧ wr = w) (fun x _ => n - (intOf x).toNat)
  case atStart => exact ⟨0, Nat.zero_le _, rfl, rfl⟩
  case round =>
    obtain ⟨k, hk, rfl, rfl⟩ := hrel
    by_cases hlt : k < n
    · obtain ⟨b, o, rfl, hbw, hcs⟩ := H3.out (by omega)
      obtain ⟨kd, way, fr, xs, kk, hfk, _, _, _, hr, _⟩ := HA.out k hlt
      have hcell := (hcs k hlt).2 2 (by decide)
      rw [hfk] at hcell
      obtain ⟨A, c, rfl, _⟩ := id hr
      simp only [List.getElem?_cons_succ, List.getElem?_cons_zero] at hcell
      rw [bs_len] at hcell
      clear hcs hfk hr
      by_cases h300 : (300 : Int) < xs.length
      · go_wp2_with fail
        all_goals go_ret
        exact ⟨_, rfl, rfl⟩
      · go_wp2_with fail
        exact ⟨⟨k + 1, by omega, rfl, trivial⟩, by simp [intOf]; omega⟩
    · obtain rfl : k = n := by omega
      go_wp2_with fail
      all_goals go_ret
      exact ⟨_, rfl, rfl⟩
end Go.Proofs.Ytlgcnnhlbkidmaa
