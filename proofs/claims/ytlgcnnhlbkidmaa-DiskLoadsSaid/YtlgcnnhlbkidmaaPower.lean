/-
  disk.Power: Plug, On, Act, Fuse, Mend.
-/
import Derived.Test.YtlgcnnhlbkidmaaSub
import Derived.Test.YtlgcnnhlbkidmaaTurns
namespace Go.Proofs.Ytlgcnnhlbkidmaa
open Go.RowKit

structure Pow where
  on : Bool
  bound : Bool
  left : Int
  made : Bool
def Pow.cells (p : Pow) : List Value := [.bool p.on, .bool p.bound, .int .i64 p.left, .bool p.made]
def Pow.act (p : Pow) : Pow × Int :=
  if p.on = false then (p, 8) else if p.bound = true ∧ p.left = 0 then ({ p with on := false }, 8) else if p.bound = true then ({ p with left := p.left - 1 }, 0) else (p, 0)
def Pow.ok (p : Pow) : Prop := 0 ≤ p.left ∧ p.left ≤ 9223372036854775807

set_option maxHeartbeats 400000 in
theorem on_any (p : Pow) (g : Nat) (w : World) (hb : Blk w g p.cells 92) : Calls Try.prog 53 #[.pointer (some ⟨g, 0, none⟩)] w fun e w' => e = .returned (.bool p.on) ∧ w = w' := by
  have c0 : w.cell? ⟨g, 0, none⟩ = some (.bool p.on) := hb.at_ 0 rfl
  go_enter Try.func53, Try.ntmps53
  go_wp2_with fail
  all_goals (go_ret; exact ⟨rfl, rfl⟩)
theorem on_nil (w : World) : Calls Try.prog 53 #[.pointer none] w fun e w' => e = .returned (.bool false) ∧ w = w' := by
  go_enter Try.func53, Try.ntmps53
  go_wp2_with fail
  all_goals (go_ret; exact ⟨rfl, rfl⟩)
theorem act_nil (w : World) : Calls Try.prog 51 #[.pointer none] w fun e w' => e = .returned (.int .i64 8) ∧ w = w' := by
  go_enter Try.func51, Try.ntmps51
  go_wp2_with (go_at_call 53; refine (on_nil _).mono ?_; rintro e w' ⟨rfl, rfl⟩)
  all_goals (go_ret; exact ⟨rfl, rfl⟩)

set_option maxHeartbeats 400000 in
theorem act_any (p : Pow) (g : Nat) (w : World) (hb : Blk w g p.cells 92) (hp : p.ok) :
    Calls Try.prog 51 #[.pointer (some ⟨g, 0, none⟩)] w fun e w' => e = .returned (.int .i64 p.act.2) ∧ Blk w' g p.act.1.cells 92 ∧ Only g w w' := by
  obtain ⟨on, bound, left, made⟩ := p
  obtain ⟨hp0, hp1⟩ := hp
  simp only at hp0 hp1
  have c1 : w.cell? ⟨g, 1, none⟩ = some (.bool bound) := hb.at_ 1 rfl
  have c2 : w.cell? ⟨g, 2, none⟩ = some (.int .i64 left) := hb.at_ 2 rfl
  have c0 : w.cell? ⟨g, 0, none⟩ = some (.bool on) := hb.at_ 0 rfl
  have f0 := hb.free 0
  have f2 := hb.free 2
  go_enter Try.func51, Try.ntmps51
  cases on
  · go_wp2_with (go_at_call 53; refine (on_any _ _ _ hb).mono ?_; rintro e w' ⟨rfl, rfl⟩)
    go_ret
    exact ⟨rfl, hb, Only.refl _ _⟩
  · cases bound
    · go_wp2_with (go_at_call 53; refine (on_any _ _ _ hb).mono ?_; rintro e w' ⟨rfl, rfl⟩)
      go_ret
      exact ⟨rfl, hb, Only.refl _ _⟩
    · by_cases hl : left = 0
      · subst hl
        go_wp2_with (go_at_call 53; refine (on_any _ _ _ hb).mono ?_; rintro e w' ⟨rfl, rfl⟩)
        go_ret
        exact ⟨rfl, hb.set 0 _, Only.set _ _ _ _⟩
      · have hl0 : (left == 0) = false := by simpa using hl
        go_wp2_with (go_at_call 53; refine (on_any _ _ _ hb).mono ?_; rintro e w' ⟨rfl, rfl⟩)
        go_ret
        have e1 : Pow.act ⟨true, true, left, made⟩ = (⟨true, true, left - 1, made⟩, 0) := by simp [Pow.act, hl]
        rw [e1]
        exact ⟨rfl, hb.set 2 _, Only.set _ _ _ _⟩
end Go.Proofs.Ytlgcnnhlbkidmaa
