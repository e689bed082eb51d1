/-
  Texts of mine in one: Long.
-/
import Derived.Test.YtmjjnaaiakchhaaDoorAb6
section
/-
  What is too long is refused, whatever it reads as.
-/
namespace Go.Proofs.YtmjjnaaiakchhaaDoor
open Go.RowKit

set_option maxRecDepth 100000 in
set_option maxHeartbeats 1000000 in
theorem seal_early (w : World) (key nonce : List Int) (va vt : Value) (na nt : Nat) (hlva : ∀ w', (Builtin.len_ #[30] 3 #[va]).run Tryd.prog w' = .ok (goInt na) w') (hlvt : ∀ w', (Builtin.len_ #[30] 3 #[vt]).run Tryd.prog w' = .ok (goInt nt) w')
    (hma : na ≤ 9223372036854775807) (hmt : nt ≤ 9223372036854775807) (h : 65536 < nt ∨ 65536 < na) :
    Calls Tryd.prog 30 #[.agg (bs key).toArray, .agg (bs nonce).toArray, va, vt] w fun e w' => e = .returned (.tuple #[.slice none 0 0, .int .i64 5]) ∧ Below w.heap.size w w' := by
  obtain ⟨B, hB⟩ : ∃ B, w.heap.size = B := ⟨_, rfl⟩
  by_cases h1 : 65536 < nt
  · have h1' : (65536 : Int) < (nt : Int) := by omega
    clear h
    go_enter Tryd.func30, Tryd.ntmps30
    go_wp2_with fail
    all_goals go_ret2
    exact ⟨rfl, by (try rw [hB]); exact bw_al (bw_al (Below.refl _ _) (by omega) _) (by simp; omega) _⟩
  · have h1' : ¬ (65536 : Int) < (nt : Int) := by omega
    have h2' : (65536 : Int) < (na : Int) := by omega
    clear h
    go_enter Tryd.func30, Tryd.ntmps30
    go_wp2_with fail
    all_goals go_ret2
    exact ⟨rfl, by (try rw [hB]); exact bw_al (bw_al (Below.refl _ _) (by omega) _) (by simp; omega) _⟩

set_option maxRecDepth 100000 in
set_option maxHeartbeats 1000000 in
theorem open_short (w : World) (key nonce : List Int) (va vs : Value) (ns : Nat) (hlvs : ∀ w', (Builtin.len_ #[30] 3 #[vs]).run Tryd.prog w' = .ok (goInt ns) w') (h : ns < 16) :
    Calls Tryd.prog 31 #[.agg (bs key).toArray, .agg (bs nonce).toArray, va, vs] w fun e w' => e = .returned (.tuple #[.slice none 0 0, .int .i64 4]) ∧ Below w.heap.size w w' := by
  obtain ⟨B, hB⟩ : ∃ B, w.heap.size = B := ⟨_, rfl⟩
  have hneg : (ns : Int) - 16 < 0 := by omega
  go_enter Tryd.func31, Tryd.ntmps31
  go_wp2_with fail
  all_goals go_ret2
  exact ⟨rfl, by (try rw [hB]); exact bw_al (bw_al (Below.refl _ _) (by omega) _) (by simp; omega) _⟩

set_option maxRecDepth 100000 in
set_option maxHeartbeats 1000000 in
theorem open_early (w : World) (key nonce : List Int) (va vs : Value) (na n : Nat) (hlva : ∀ w', (Builtin.len_ #[30] 3 #[va]).run Tryd.prog w' = .ok (goInt na) w') (hlvs : ∀ w', (Builtin.len_ #[30] 3 #[vs]).run Tryd.prog w' = .ok (goInt ((n + 16 : Nat) : Int)) w')
    (hma : na ≤ 9223372036854775807) (hms : n + 16 ≤ 9223372036854775807) (h : 65536 < na ∨ 65536 < n) :
    Calls Tryd.prog 31 #[.agg (bs key).toArray, .agg (bs nonce).toArray, va, vs] w fun e w' => e = .returned (.tuple #[.slice none 0 0, .int .i64 5]) ∧ Below w.heap.size w w' := by
  obtain ⟨B, hB⟩ : ∃ B, w.heap.size = B := ⟨_, rfl⟩
  obtain ⟨ns, hns⟩ : ∃ ns : Nat, n + 16 = ns := ⟨_, rfl⟩
  rw [hns] at hlvs hms
  have hni : (ns : Int) - 16 = (n : Int) := by omega
  by_cases h1 : 65536 < na
  · have h1' : (65536 : Int) < (na : Int) := by omega
    clear h hns
    go_enter Tryd.func31, Tryd.ntmps31
    go_wp2_with fail
    all_goals go_ret2
    exact ⟨rfl, by (try rw [hB]); exact bw_al (bw_al (Below.refl _ _) (by omega) _) (by simp; omega) _⟩
  · have h1' : ¬ (65536 : Int) < (na : Int) := by omega
    have h2' : (65536 : Int) < (n : Int) := by omega
    clear h hns
    go_enter Tryd.func31, Tryd.ntmps31
    go_wp2_with fail
    all_goals go_ret2
    exact ⟨rfl, by (try rw [hB]); exact bw_al (bw_al (Below.refl _ _) (by omega) _) (by simp; omega) _⟩
theorem slice_len (A : Option Addr) (n c : Nat) : ∀ w', (Builtin.len_ #[30] 3 #[.slice A n c]).run Tryd.prog w' = .ok (goInt n) w' := fun w' => by
  have hu : Tryd.prog.underlying 30 = some (.slice 5) := Tryd.underlying30
  simp [Builtin.len_, run_underlying hu]
end Go.Proofs.YtmjjnaaiakchhaaDoor
end
