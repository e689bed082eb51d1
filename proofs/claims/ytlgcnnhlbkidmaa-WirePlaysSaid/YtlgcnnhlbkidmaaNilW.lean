/-
  No wire, no net: a number of ways that is none.
-/
import Derived.Test.YtlgcnnhlbkidmaaFewW
namespace Go.Proofs.Ytlgcnnhlbkidmaa
open Go.RowKit Go.Conc

set_option maxRecDepth 100000 in
theorem newwire_none (w : World) (n : Int) (hn : n < 1 ∨ 64 < n) :
    Calls Try.prog 21 #[.int .i64 n] w fun e w' => e = .returned (.pointer none) ∧ w = w' := by
  by_cases h1 : n < 1
  · clear hn
    go_enter Try.func21, Try.ntmps21
    go_wp2_with fail
    all_goals go_ret
    exact ⟨rfl, rfl⟩
  · have h2 : 64 < n := by omega
    clear hn
    go_enter Try.func21, Try.ntmps21
    go_wp2_with fail
    all_goals go_ret
    exact ⟨rfl, rfl⟩
set_option maxRecDepth 100000 in
theorem newnet_none (w : World) (n : Int) (hn : n < 1 ∨ 64 < n) :
    Calls Try.prog 31 #[.int .i64 n] w fun e w' => e = .returned (.pointer none) ∧ w = w' := by
  by_cases h1 : n < 1
  · clear hn
    go_enter Try.func31, Try.ntmps31
    go_wp2_with fail
    all_goals go_ret
    exact ⟨rfl, rfl⟩
  · have h2 : 64 < n := by omega
    clear hn
    go_enter Try.func31, Try.ntmps31
    go_wp2_with fail
    all_goals go_ret
    exact ⟨rfl, rfl⟩
end Go.Proofs.Ytlgcnnhlbkidmaa
