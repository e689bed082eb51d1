/-
  disk: a disk that no call made.
-/
import Derived.Test.YtlgcnnhlbkidmaaDiskX
namespace Go.Proofs.Ytlgcnnhlbkidmaa
open Go.RowKit

/-- A disk that no call made. -/
def Dead (w : World) (v : Value) : Prop := v = .pointer none ∨ ∃ g, v = .pointer (some ⟨g, 0, none⟩) ∧ Blk w g [.pointer none, .map none] 123
theorem Dead.stay {w w' : World} {v : Value} (h : Dead w v) (hb : Below w.heap.size w w') : Dead w' v := h.imp id fun ⟨g, h1, h2⟩ => ⟨g, h1, h2.stay hb⟩
set_option maxRecDepth 100000 in
theorem made_dead (w : World) (v : Value) (h : Dead w v) : Calls Try.prog 79 #[v] w fun e w' => e = .returned (.bool false) ∧ w = w' := by
  rcases h with rfl | ⟨g, rfl, h⟩
  · go_enter Try.func79, Try.ntmps79
    go_wp2_with fail
    all_goals go_ret
    exact ⟨rfl, rfl⟩
  · have c1 := h.at_ 1 rfl
    have hnm := run_neq_map0
    go_enter Try.func79, Try.ntmps79
    go_wp2_with fail
    all_goals go_ret
    exact ⟨rfl, rfl⟩
theorem ask_dead (w : World) (v u : Value) (h : Dead w v) : Calls Try.prog 75 #[v, u] w fun e w' => e = .returned (.int .i64 2) ∧ w = w' := by
  go_enter Try.func75, Try.ntmps75
  go_wp2_with (go_at_call 79; refine (made_dead w v h).mono ?_; rintro e w' ⟨rfl, rfl⟩)
  all_goals go_ret
  exact ⟨rfl, rfl⟩
theorem there_dead (w : World) (v u : Value) (h : Dead w v) : Calls Try.prog 78 #[v, u] w fun e w' => e = .returned (.int .i64 2) ∧ w = w' := by
  go_enter Try.func78, Try.ntmps78
  go_wp2_with (go_at_call 75; refine (ask_dead w v u h).mono ?_; rintro e w' ⟨rfl, rfl⟩)
  all_goals go_ret
  exact ⟨rfl, rfl⟩
theorem create_dead (w : World) (v : Value) (s : ByteArray) (h : Dead w v) : Calls Try.prog 55 #[v, .string s] w fun e w' => e = .returned (.int .i64 2) ∧ Below w.heap.size w w' := by
  have hA : Below w.heap.size w (w.alloc (.cells #[.string s] 9)) := bw_al (Below.refl _ _) (Nat.le_refl _) _
  have hd := h.stay hA
  go_enter Try.func55, Try.ntmps55
  go_wp2_with (go_at_call 75; refine (ask_dead _ v _ hd).mono ?_; rintro e w' ⟨rfl, rfl⟩)
  all_goals go_ret
  exact ⟨rfl, hA⟩
theorem append_dead (w : World) (v : Value) (s : ByteArray) (u : Value) (h : Dead w v) : Calls Try.prog 56 #[v, .string s, u] w fun e w' => e = .returned (.int .i64 2) ∧ Below w.heap.size w w' := by
  have hA : Below w.heap.size w (w.alloc (.cells #[.string s] 9)) := bw_al (Below.refl _ _) (Nat.le_refl _) _
  have hd := h.stay hA
  go_enter Try.func56, Try.ntmps56
  go_wp2_with (go_at_call 78; refine (there_dead _ v _ hd).mono ?_; rintro e w' ⟨rfl, rfl⟩)
  all_goals go_ret
  exact ⟨rfl, hA⟩
theorem sync_dead (w : World) (v : Value) (s : ByteArray) (h : Dead w v) : Calls Try.prog 57 #[v, .string s] w fun e w' => e = .returned (.int .i64 2) ∧ Below w.heap.size w w' := by
  have hA : Below w.heap.size w (w.alloc (.cells #[.string s] 9)) := bw_al (Below.refl _ _) (Nat.le_refl _) _
  have hd := h.stay hA
  go_enter Try.func57, Try.ntmps57
  go_wp2_with (go_at_call 78; refine (there_dead _ v _ hd).mono ?_; rintro e w' ⟨rfl, rfl⟩)
  all_goals go_ret
  exact ⟨rfl, hA⟩
theorem read_dead (w : World) (v : Value) (s : ByteArray) (h : Dead w v) : Calls Try.prog 59 #[v, .string s] w fun e w' => e = .returned (.tuple #[.slice none 0 0, .int .i64 2]) ∧ Below w.heap.size w w' := by
  have hA : Below w.heap.size w (w.alloc (.cells #[.string s] 9)) := bw_al (Below.refl _ _) (Nat.le_refl _) _
  have hd := h.stay hA
  go_enter Try.func59, Try.ntmps59
  go_wp2_with (go_at_call 78; refine (there_dead _ v _ hd).mono ?_; rintro e w' ⟨rfl, rfl⟩)
  all_goals go_ret2
  exact ⟨rfl, hA⟩
theorem remove_dead (w : World) (v : Value) (s : ByteArray) (h : Dead w v) : Calls Try.prog 68 #[v, .string s] w fun e w' => e = .returned (.int .i64 2) ∧ Below w.heap.size w w' := by
  have hA : Below w.heap.size w (w.alloc (.cells #[.string s] 9)) := bw_al (Below.refl _ _) (Nat.le_refl _) _
  have hd := h.stay hA
  go_enter Try.func68, Try.ntmps68
  go_wp2_with (go_at_call 78; refine (there_dead _ v _ hd).mono ?_; rintro e w' ⟨rfl, rfl⟩)
  all_goals go_ret
  exact ⟨rfl, hA⟩
theorem rename_dead (w : World) (v : Value) (s t : ByteArray) (h : Dead w v) : Calls Try.prog 67 #[v, .string s, .string t] w fun e w' => e = .returned (.int .i64 2) ∧ Below w.heap.size w w' := by
  have hA : Below w.heap.size w (w.alloc (.cells #[.string s, .string t] 9)) := bw_al (Below.refl _ _) (Nat.le_refl _) _
  have hd := h.stay hA
  go_enter Try.func67, Try.ntmps67
  go_wp2_with (go_at_call 78; refine (there_dead _ v _ hd).mono ?_; rintro e w' ⟨rfl, rfl⟩)
  all_goals go_ret
  exact ⟨rfl, hA⟩
theorem edit_dead (w : World) (v : Value) (s : ByteArray) (u : Value) (h : Dead w v) : Calls Try.prog 60 #[v, .string s, u] w fun e w' => e = .returned (.int .i64 2) ∧ Below w.heap.size w w' := by
  go_enter Try.func60, Try.ntmps60
  go_wp2_with (go_at_call 79; refine (made_dead w v h).mono ?_; rintro e w' ⟨rfl, rfl⟩)
  all_goals go_ret
  exact ⟨rfl, Below.refl _ _⟩
theorem load_dead (w : World) (v : Value) (u : Value) (h : Dead w v) : Calls Try.prog 62 #[v, u] w fun e w' => e = .returned (.int .i64 2) ∧ Below w.heap.size w w' := by
  go_enter Try.func62, Try.ntmps62
  go_wp2_with (go_at_call 79; refine (made_dead w v h).mono ?_; rintro e w' ⟨rfl, rfl⟩)
  all_goals go_ret
  exact ⟨rfl, Below.refl _ _⟩
theorem crash_dead (w : World) (v : Value) (u : Value) (h : Dead w v) : Calls Try.prog 58 #[v, u] w fun e w' => e = .returned (.tuple #[]) ∧ Below w.heap.size w w' := by
  go_enter Try.func58, Try.ntmps58
  go_wp2_with (go_at_call 79; refine (made_dead w v h).mono ?_; rintro e w' ⟨rfl, rfl⟩)
  exact bodyPost_ret (v := .tuple #[]) (by simp [results, Try.results58, go_sem]) rfl ⟨rfl, Below.refl _ _⟩
theorem names_dead (w : World) (v : Value) (h : Dead w v) : Calls Try.prog 61 #[v] w fun e w' => e = .returned (.slice none 0 0) ∧ Below w.heap.size w w' := by
  go_enter Try.func61, Try.ntmps61
  go_wp2_with (go_at_call 79; refine (made_dead w v h).mono ?_; rintro e w' ⟨rfl, rfl⟩)
  all_goals go_ret
  exact ⟨rfl, Below.refl _ _⟩
theorem image_dead (w : World) (v : Value) (h : Dead w v) : Calls Try.prog 65 #[v] w fun e w' => e = .returned (.slice none 0 0) ∧ Below w.heap.size w w' := by
  go_enter Try.func65, Try.ntmps65
  go_wp2_with (go_at_call 61; refine (names_dead w v h).mono ?_; rintro e w' ⟨rfl, hb⟩)
  go_loopw [10, 3] (fun x y wr => x = .int .i64 0 ∧ y = .slice none 0 0 ∧ wr = w') (fun _ _ _ => 0)
  case atStart => exact ⟨rfl, rfl, rfl⟩
  case round =>
    obtain ⟨rfl, rfl, rfl⟩ := hrel
    go_wp2_with fail
    all_goals go_ret
    exact ⟨rfl, hb⟩
end Go.Proofs.Ytlgcnnhlbkidmaa
