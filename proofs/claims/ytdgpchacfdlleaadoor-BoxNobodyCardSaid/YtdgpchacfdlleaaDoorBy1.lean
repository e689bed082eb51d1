/-
  Texts of mine in one: DeadB.
-/
import Derived.Test.YtdgpchacfdlleaaDoorBx5
section
/-
  box: a box that no call made.
-/
namespace Go.Proofs.YtdgpchacfdlleaaDoor
open Go.RowKit

def zeroBox : List Value := [.slice none 0 0, .bool false, .bool false, .slice none 0 0, .slice none 0 0, .map none, .int .i64 0, .int .i64 0]
def DeadB (w : World) (v : Value) : Prop := v = .pointer none ∨ ∃ g, v = .pointer (some ⟨g, 0, none⟩) ∧ Blk w g zeroBox 59
theorem DeadB.stay {w w' : World} {v : Value} (h : DeadB w v) (hb : Below w.heap.size w w') : DeadB w' v := h.imp id fun ⟨g, h1, h2⟩ => ⟨g, h1, h2.stay hb⟩
set_option maxRecDepth 100000 in
theorem ask_dead (w : World) (v : Value) (h : DeadB w v) (u0 u1 u2 u3 u4 u5 : Value) (n : Int) :
    Calls Tryd.prog 53 #[v, .agg #[u0, u1, u2, u3, u4, u5], .int .i64 n] w fun e w' => e = .returned (.int .i64 2) ∧ Below w.heap.size w w' := by
  rcases h with rfl | ⟨g, rfl, hb⟩
  · go_enter Tryd.func53, Tryd.ntmps53
    go_wp2_with fail
    all_goals (try go_ret)
    exact ⟨rfl, bw_al (Below.refl _ _) (Nat.le_refl _) _⟩
  · have y2 : (w.alloc (.cells #[u0, u1, u2, u3, u4, u5] 23)).cell? ⟨g, 2, none⟩ = some (.bool false) := (hb.al _).at_ 2 rfl
    clear hb
    go_enter Tryd.func53, Tryd.ntmps53
    go_wp2_with fail
    all_goals (try go_ret)
    exact ⟨rfl, bw_al (Below.refl _ _) (Nat.le_refl _) _⟩
set_option maxRecDepth 100000 in
set_option maxHeartbeats 1000000 in
theorem seal_dead (w : World) (v : Value) (h : DeadB w v) (u0 u1 u2 u3 u4 u5 va vt : Value) (n : Int) :
    Calls Tryd.prog 18 #[v, .agg #[u0, u1, u2, u3, u4, u5], .int .i64 n, va, vt] w fun e w' => e = .returned (.tuple #[.slice none 0 0, .int .i64 2]) ∧ Below w.heap.size w w' := by
  have AS := Lib.hid (ask_dead (w.alloc (.cells #[u0, u1, u2, u3, u4, u5] 23)) v (h.stay (bw_al (Below.refl _ _) (Nat.le_refl _) _)) u0 u1 u2 u3 u4 u5 n)
  have b0 : Blk (w.alloc (.cells #[u0, u1, u2, u3, u4, u5] 23)) w.heap.size [u0, u1, u2, u3, u4, u5] 23 := Blk.mk_ _ rfl rfl
  have B0 := Lib.hid b0
  clear h b0
  go_enter Tryd.func18, Tryd.ntmps18
  go_wp2_with (first
    | (refine wp_load_blk rfl 23 (.tmp 6) rfl rfl B0.out Tryd.underlying23 rfl (n := 6) (by kernel_rfl) rfl ?_)
    | (go_at_call 53; refine AS.out.mono ?_; rintro e w1 ⟨rfl, hb1⟩))
  all_goals (try go_ret2)
  exact ⟨rfl, bw_then (bw_al (Below.refl _ _) (Nat.le_refl _) _) hb1 (by simp)⟩
set_option maxRecDepth 100000 in
set_option maxHeartbeats 1000000 in
theorem open_dead (w : World) (v : Value) (h : DeadB w v) (u0 u1 u2 u3 u4 u5 va vt : Value) (n : Int) :
    Calls Tryd.prog 19 #[v, .agg #[u0, u1, u2, u3, u4, u5], .int .i64 n, va, vt] w fun e w' => e = .returned (.tuple #[.slice none 0 0, .int .i64 2]) ∧ Below w.heap.size w w' := by
  have AS := Lib.hid (ask_dead (w.alloc (.cells #[u0, u1, u2, u3, u4, u5] 23)) v (h.stay (bw_al (Below.refl _ _) (Nat.le_refl _) _)) u0 u1 u2 u3 u4 u5 n)
  have b0 : Blk (w.alloc (.cells #[u0, u1, u2, u3, u4, u5] 23)) w.heap.size [u0, u1, u2, u3, u4, u5] 23 := Blk.mk_ _ rfl rfl
  have B0 := Lib.hid b0
  clear h b0
  go_enter Tryd.func19, Tryd.ntmps19
  go_wp2_with (first
    | (refine wp_load_blk rfl 23 (.tmp 6) rfl rfl B0.out Tryd.underlying23 rfl (n := 6) (by kernel_rfl) rfl ?_)
    | (go_at_call 53; refine AS.out.mono ?_; rintro e w1 ⟨rfl, hb1⟩))
  all_goals (try go_ret2)
  exact ⟨rfl, bw_then (bw_al (Below.refl _ _) (Nat.le_refl _) _) hb1 (by simp)⟩
set_option maxRecDepth 100000 in
set_option maxHeartbeats 1000000 in
theorem mark_dead (w : World) (v : Value) (h : DeadB w v) (u0 u1 u2 u3 u4 u5 vt : Value) :
    Calls Tryd.prog 22 #[v, .agg #[u0, u1, u2, u3, u4, u5], vt] w fun e w' => e = .returned (.tuple #[.slice none 0 0, .int .i64 2]) ∧ Below w.heap.size w w' := by
  have AS := Lib.hid (ask_dead (w.alloc (.cells #[u0, u1, u2, u3, u4, u5] 23)) v (h.stay (bw_al (Below.refl _ _) (Nat.le_refl _) _)) u0 u1 u2 u3 u4 u5 0)
  have b0 : Blk (w.alloc (.cells #[u0, u1, u2, u3, u4, u5] 23)) w.heap.size [u0, u1, u2, u3, u4, u5] 23 := Blk.mk_ _ rfl rfl
  have B0 := Lib.hid b0
  clear h b0
  go_enter Tryd.func22, Tryd.ntmps22
  go_wp2_with (first
    | (refine wp_load_blk rfl 23 (.tmp 4) rfl rfl B0.out Tryd.underlying23 rfl (n := 6) (by kernel_rfl) rfl ?_)
    | (go_at_call 53; refine AS.out.mono ?_; rintro e w1 ⟨rfl, hb1⟩))
  all_goals (try go_ret2)
  exact ⟨rfl, bw_then (bw_al (Below.refl _ _) (Nat.le_refl _) _) hb1 (by simp)⟩
set_option maxRecDepth 100000 in
set_option maxHeartbeats 1000000 in
theorem check_dead (w : World) (v : Value) (h : DeadB w v) (u0 u1 u2 u3 u4 u5 vt vm : Value) :
    Calls Tryd.prog 24 #[v, .agg #[u0, u1, u2, u3, u4, u5], vt, vm] w fun e w' => e = .returned (.bool false) ∧ Below w.heap.size w w' := by
  have AS := Lib.hid (ask_dead (w.alloc (.cells #[u0, u1, u2, u3, u4, u5] 23)) v (h.stay (bw_al (Below.refl _ _) (Nat.le_refl _) _)) u0 u1 u2 u3 u4 u5 0)
  have b0 : Blk (w.alloc (.cells #[u0, u1, u2, u3, u4, u5] 23)) w.heap.size [u0, u1, u2, u3, u4, u5] 23 := Blk.mk_ _ rfl rfl
  have B0 := Lib.hid b0
  clear h b0
  go_enter Tryd.func24, Tryd.ntmps24
  go_wp2_with (first
    | (refine wp_load_blk rfl 23 (.tmp 5) rfl rfl B0.out Tryd.underlying23 rfl (n := 6) (by kernel_rfl) rfl ?_)
    | (go_at_call 53; refine AS.out.mono ?_; rintro e w1 ⟨rfl, hb1⟩))
  all_goals (try go_ret)
  exact ⟨rfl, bw_then (bw_al (Below.refl _ _) (Nat.le_refl _) _) hb1 (by simp)⟩
theorem sealed_dead (w : World) (v : Value) (h : DeadB w v) : Calls Tryd.prog 29 #[v] w fun e w' => e = .returned (.int .i64 0) ∧ w = w' := by
  rcases h with rfl | ⟨g, rfl, hb⟩
  · go_enter Tryd.func29, Tryd.ntmps29
    go_wp2_with fail
    all_goals (try go_ret)
    exact ⟨rfl, rfl⟩
  · have y6 := hb.at_ 6 (v := .int .i64 0) rfl
    clear hb
    go_enter Tryd.func29, Tryd.ntmps29
    go_wp2_with fail
    all_goals (try go_ret)
    exact ⟨rfl, rfl⟩
theorem repeats_dead (w : World) (v : Value) (h : DeadB w v) : Calls Tryd.prog 30 #[v] w fun e w' => e = .returned (.int .i64 0) ∧ w = w' := by
  rcases h with rfl | ⟨g, rfl, hb⟩
  · go_enter Tryd.func30, Tryd.ntmps30
    go_wp2_with fail
    all_goals (try go_ret)
    exact ⟨rfl, rfl⟩
  · have y7 := hb.at_ 7 (v := .int .i64 0) rfl
    clear hb
    go_enter Tryd.func30, Tryd.ntmps30
    go_wp2_with fail
    all_goals (try go_ret)
    exact ⟨rfl, rfl⟩
end Go.Proofs.YtdgpchacfdlleaaDoor
end
