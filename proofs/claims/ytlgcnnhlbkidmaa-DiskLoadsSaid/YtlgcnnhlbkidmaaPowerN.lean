/-
  disk.Power: one that no call made.
-/
import Derived.Test.YtlgcnnhlbkidmaaPowerB
namespace Go.Proofs.Ytlgcnnhlbkidmaa
open Go.RowKit

def Pow.none_ : Pow := ⟨false, false, 0, false⟩
theorem fuse_nil (w : World) (n : Int) : Calls Try.prog 45 #[.pointer none, .int .i64 n] w fun e w' => e = .returned (.tuple #[]) ∧ w = w' := by
  go_enter Try.func45, Try.ntmps45
  go_wp2_with fail
  all_goals go_end0
  exact ⟨rfl, rfl⟩
theorem mend_nil (w : World) : Calls Try.prog 47 #[.pointer none] w fun e w' => e = .returned (.tuple #[]) ∧ w = w' := by
  go_enter Try.func47, Try.ntmps47
  go_wp2_with fail
  all_goals go_end0
  exact ⟨rfl, rfl⟩
theorem fuse_no (w : World) (g : Nat) (n : Int) (h : Blk w g Pow.none_.cells 92) : Calls Try.prog 45 #[.pointer (some ⟨g, 0, none⟩), .int .i64 n] w fun e w' => e = .returned (.tuple #[]) ∧ w = w' := by
  have c3 : w.cell? ⟨g, 3, none⟩ = some (.bool false) := h.at_ 3 rfl
  go_enter Try.func45, Try.ntmps45
  go_wp2_with fail
  all_goals go_end0
  exact ⟨rfl, rfl⟩
set_option maxRecDepth 8000 in
theorem mend_no (w : World) (g : Nat) (h : Blk w g Pow.none_.cells 92) : Calls Try.prog 47 #[.pointer (some ⟨g, 0, none⟩)] w fun e w' => e = .returned (.tuple #[]) ∧ w = w' := by
  have c3 : w.cell? ⟨g, 3, none⟩ = some (.bool false) := h.at_ 3 rfl
  go_enter Try.func47, Try.ntmps47
  go_wp2_with fail
  all_goals go_end0
  exact ⟨rfl, rfl⟩
end Go.Proofs.Ytlgcnnhlbkidmaa
