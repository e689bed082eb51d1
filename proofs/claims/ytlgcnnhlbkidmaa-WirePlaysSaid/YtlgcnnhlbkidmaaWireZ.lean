/-
  No wire; a way that is full.
-/
import Derived.Test.YtlgcnnhlbkidmaaAwakeW
namespace Go.Proofs.Ytlgcnnhlbkidmaa
open Go.RowKit Go.Conc

theorem next_nil (w : World) (i : Int) : Calls Try.prog 23 #[.pointer none, .int .i64 i] w fun e w' => e = .returned (.tuple #[.slice none 0 0, .int .i64 1]) ∧ w = w' := by
  go_enter Try.func23, Try.ntmps23
  go_wp2_with (go_at_call 69; refine (lane_nil _ _).mono ?_; rintro e w' ⟨rfl, rfl⟩)
  all_goals go_ret2
  exact ⟨rfl, rfl⟩
theorem lose_nil (w : World) (i : Int) : Calls Try.prog 26 #[.pointer none, .int .i64 i] w fun e w' => e = .returned (.int .i64 1) ∧ w = w' := by
  go_enter Try.func26, Try.ntmps26
  go_wp2_with (go_at_call 23; refine (next_nil _ _).mono ?_; rintro e w' ⟨rfl, rfl⟩)
  all_goals go_ret
  exact ⟨rfl, rfl⟩
theorem pick_nil (w : World) (i k : Int) : Calls Try.prog 24 #[.pointer none, .int .i64 i, .int .i64 k] w fun e w' => e = .returned (.tuple #[.slice none 0 0, .int .i64 1]) ∧ w = w' := by
  go_enter Try.func24, Try.ntmps24
  go_wp2_with (go_at_call 69; refine (lane_nil _ _).mono ?_; rintro e w' ⟨rfl, rfl⟩)
  all_goals go_ret2
  exact ⟨rfl, rfl⟩
theorem count_nil (w : World) (i : Int) : Calls Try.prog 25 #[.pointer none, .int .i64 i] w fun e w' => e = .returned (.int .i64 0) ∧ w = w' := by
  go_enter Try.func25, Try.ntmps25
  go_wp2_with (go_at_call 69; refine (lane_nil _ _).mono ?_; rintro e w' ⟨rfl, rfl⟩)
  all_goals go_ret
  exact ⟨rfl, rfl⟩
theorem waiting_nil (w : World) (i : Int) : Calls Try.prog 27 #[.pointer none, .int .i64 i] w fun e w' => e = .returned (.int .i64 0) ∧ w = w' := by
  go_enter Try.func27, Try.ntmps27
  go_wp2_with (go_at_call 69; refine (lane_nil _ _).mono ?_; rintro e w' ⟨rfl, rfl⟩)
  all_goals go_ret
  exact ⟨rfl, rfl⟩
theorem send_nil (w : World) (i : Int) (v : Value) : Calls Try.prog 22 #[.pointer none, .int .i64 i, v] w fun e w' => e = .returned (.int .i64 1) ∧ w = w' := by
  go_enter Try.func22, Try.ntmps22
  go_wp2_with (go_at_call 69; refine (lane_nil _ _).mono ?_; rintro e w' ⟨rfl, rfl⟩)
  all_goals go_ret
  exact ⟨rfl, rfl⟩
theorem send_full (w : World) (B p : Nat) (own : Nat → Option Spot) (st : List WayS) (k : Nat) (l : WayS) (v : Value) (xs : List Int) (h : Wire w B p own st) (hk : st[k]? = some l) (hr : Rd w v (bs xs)) (hx : IsB xs) (hl : xs.length ≤ 131072) (hf : 200 ≤ l.1.length) :
    Calls Try.prog 22 #[.pointer (some ⟨p, 0, none⟩), .int .i64 k, v] w fun e w' => e = .returned (.int .i64 10) ∧ w = w' := by
  have hlen : k < st.length := (List.getElem?_eq_some_iff.1 hk).1
  have hle : st.length ≤ 64 := by obtain ⟨g, cap, cs, h⟩ := h; exact h.le
  have hw : wayOf st (k : Int) = some l := by unfold wayOf; rw [if_pos (by omega)]; simpa using hk
  have := send_any w B p own st k v xs h (by omega) hr hx
  unfold SendRes at this
  rw [hw] at this
  simp only [if_neg (show ¬ 131072 < xs.length by omega), if_pos hf] at this
  exact this
theorem count_ok (w : World) (B p : Nat) (own : Nat → Option Spot) (st : List WayS) (k : Nat) (l : WayS) (h : Wire w B p own st) (hk : st[k]? = some l) :
    Calls Try.prog 25 #[.pointer (some ⟨p, 0, none⟩), .int .i64 k] w fun e w' => e = .returned (.int .i64 l.1.length) ∧ w = w' := by
  have hlen : k < st.length := (List.getElem?_eq_some_iff.1 hk).1
  have hle : st.length ≤ 64 := by obtain ⟨g, cap, cs, h⟩ := h; exact h.le
  have hw : wayOf st (k : Int) = some l := by unfold wayOf; rw [if_pos (by omega)]; simpa using hk
  have := count_any w B p own st k h (by omega)
  rw [hw] at this
  exact this
theorem waiting_ok (w : World) (B p : Nat) (own : Nat → Option Spot) (st : List WayS) (k : Nat) (l : WayS) (h : Wire w B p own st) (hk : st[k]? = some l) :
    Calls Try.prog 27 #[.pointer (some ⟨p, 0, none⟩), .int .i64 k] w fun e w' => e = .returned (.int .i64 ((l.1.length - l.2 : Nat) : Int)) ∧ w = w' := by
  have hlen : k < st.length := (List.getElem?_eq_some_iff.1 hk).1
  have hle : st.length ≤ 64 := by obtain ⟨g, cap, cs, h⟩ := h; exact h.le
  have hw : wayOf st (k : Int) = some l := by unfold wayOf; rw [if_pos (by omega)]; simpa using hk
  have := waiting_any w B p own st k h (by omega)
  rw [hw] at this
  exact this
theorem lose_ok (w : World) (B p : Nat) (own : Nat → Option Spot) (st : List WayS) (k : Nat) (l : WayS) (h : Wire w B p own st) (hk : st[k]? = some l) (hf : l.2 < l.1.length) :
    Calls Try.prog 26 #[.pointer (some ⟨p, 0, none⟩), .int .i64 k] w fun e w' => e = .returned (.int .i64 0) ∧ Wire w' B p own (st.set k (l.1, l.2 + 1)) ∧ Turns (fun b => own b = some (2, k, 0)) w w' := by
  have hlen : k < st.length := (List.getElem?_eq_some_iff.1 hk).1
  have hle : st.length ≤ 64 := by obtain ⟨g, cap, cs, h⟩ := h; exact h.le
  have hw : wayOf st (k : Int) = some l := by unfold wayOf; rw [if_pos (by omega)]; simpa using hk
  have := lose_any w B p own st k h (by omega)
  unfold LoseRes at this
  rw [hw] at this
  simp only [if_neg (show ¬ l.1.length ≤ l.2 by omega), Int.toNat_natCast] at this
  exact this
/-- What a wire does turns nothing that was there ahead of it. -/
theorem Wire.bl {w w' w0 : World} {B p : Nat} {own : Nat → Option Spot} {st : List WayS} {T : Nat → Prop} (h : Wire w B p own st) (hb : Below B w0 w) (ht : Turns T w w') (hT : ∀ b, T b → ∃ s, own b = some s) (hB : B ≤ w.heap.size) : Below B w0 w' :=
  Turns.below hb ht hB fun j hj => by obtain ⟨s, hs⟩ := hT j hj; exact (h.dom j s hs).1
end Go.Proofs.Ytlgcnnhlbkidmaa
