/-
  disk: which names may be; slices.ContainsFunc over names.
-/
import Derived.Test.YtlgcnnhlbkidmaaBytes
import Derived.Test.YtlgcnnhlbkidmaaTurns
import Derived.Deep.Slices
namespace Go.Proofs.Ytlgcnnhlbkidmaa
open Go.RowKit

/-- May a name be? -/
def namedB (s : ByteArray) : Bool := decide (1 ≤ s.size) && decide (s.size ≤ 40)
set_option maxHeartbeats 400000 in
theorem named_any (s : ByteArray) (w : World) : Calls Try.prog 80 #[.string s] w fun e w' => e = .returned (.bool (namedB s)) ∧ w = w' := by
  by_cases h0 : s.size = 0
  · have h1 : (s.toList == ([] : List UInt8)) = true := by
      have : s.data = #[] := Array.eq_empty_of_size_eq_zero h0
      rw [ByteArray.toList_eq, this]; rfl
    have h2 : namedB s = false := by unfold namedB; simp; omega
    rw [h2]
    clear h2 h0
    go_enter Try.func80, Try.ntmps80
    go_wp2_with fail
    all_goals (go_ret; exact ⟨rfl, rfl⟩)
  · have h1 : (s.toList == ([] : List UInt8)) = false := by
      rw [ByteArray.toList_eq]
      cases h : s.data.toList with
      | nil => exact absurd (by have := congrArg List.length h; simpa using this) h0
      | cons a l => rfl
    have h2 : namedB s = decide ((s.size : Int) ≤ 40) := by unfold namedB; rw [decide_eq_true (by omega), Bool.true_and]; exact decide_eq_decide.2 (by omega)
    rw [h2]
    clear h2 h0
    go_enter Try.func80, Try.ntmps80
    go_wp2_with fail
    all_goals (go_ret; exact ⟨rfl, rfl⟩)

theorem badname_any (s : ByteArray) (w : World) : Calls Try.prog 87 #[.string s] w fun e w' => e = .returned (.bool (!namedB s)) ∧ w = w' := by
  go_enter Try.func87, Try.ntmps87
  go_wp2_with (go_at_call 80; refine (named_any s w).mono ?_; rintro e w' ⟨rfl, rfl⟩)
  go_ret
  exact ⟨rfl, rfl⟩

/-- The first of some names that may not be. -/
def badAt : List ByteArray → Nat → Int
  | [], _ => -1
  | s :: r, i => if namedB s then badAt r (i + 1) else i
theorem badAt_ge (l : List ByteArray) (i : Nat) : (decide (0 ≤ badAt l i)) = l.any fun s => !namedB s := by
  induction l generalizing i with
  | nil => rfl
  | cons s r ih =>
    unfold badAt
    cases h : namedB s
    · simp [h]
    · simp [h, ih]
set_option maxHeartbeats 1000000 in
theorem indexfunc_any (w : World) (v : Value) (l : List ByteArray) (hr : Rd w v (l.map Value.string)) :
    Calls Try.prog 91 #[v, .func (.func 87) #[] #[]] w fun e w' => e = .returned (.int .i64 (badAt l 0)) ∧ w = w' := by
  have hmx := hr.len
  obtain ⟨A, c, rfl, hc1, hc2, h0, hcell⟩ := hr
  rw [List.length_map] at *
  have HC := Lib.hid hcell
  clear hcell
  go_enter Try.func91, Try.ntmps91
  go_wp2_with fail
  go_loop [8] (fun x => ∃ k : Nat, k ≤ l.length ∧ x = .int .i64 k ∧ badAt (l.drop k) k = badAt l 0) (fun x => l.length - (intOf x).toNat)
  case atStart => exact ⟨0, Nat.zero_le _, rfl, rfl⟩
  case round =>
    obtain ⟨k, hk, rfl, hrel⟩ := hrel
    have HR := Lib.hid (fun _ : Unit => hrel)
    clear hrel
    by_cases hlt : k < l.length
    · rcases HC.out with h | ⟨b, o, rfl, hcell⟩
      · simp at h; subst h; simp at hlt
      obtain ⟨s, hs⟩ : ∃ s, l[k] = s := ⟨_, rfl⟩
      have hc : w.cell? ⟨b, o + k, none⟩ = some (.string s) := by rw [hcell k (by simpa using hlt)]; simp [hs]
      have hd : badAt (l.drop k) k = if namedB s then badAt (l.drop (k + 1)) (k + 1) else k := by rw [List.drop_eq_getElem_cons hlt, hs]; rfl
      have HD := Lib.hid (fun _ : Unit => hd)
      clear hcell hs hd
      obtain ⟨nb, hnb⟩ : ∃ nb, namedB s = nb := ⟨_, rfl⟩
      have BN := Lib.hid (badname_any s w)
      rw [hnb] at BN HD
      clear hnb
      cases nb
      · go_wp2_with (go_at_call 87; refine BN.out.mono ?_; rintro e w' ⟨rfl, rfl⟩)
        go_ret
        exact ⟨by rw [← HR.out (), HD.out ()]; rfl, rfl⟩
      · go_wp2_with (go_at_call 87; refine BN.out.mono ?_; rintro e w' ⟨rfl, rfl⟩)
        go_round
        case rel => exact ⟨k + 1, by omega, by go_num, by rw [← HR.out (), HD.out ()]; rfl⟩
        case measure => simp [intOf]; omega
    · obtain rfl : k = l.length := by omega
      go_wp2_with fail
      go_ret
      refine ⟨?_, rfl⟩
      rw [← HR.out (), List.drop_of_length_le (Nat.le_refl _)]; rfl
set_option maxHeartbeats 400000 in
theorem containsfunc_any (w : World) (v : Value) (l : List ByteArray) (hr : Rd w v (l.map Value.string)) :
    Calls Try.prog 86 #[v, .func (.func 87) #[] #[]] w fun e w' => e = .returned (.bool (l.any fun s => !namedB s)) ∧ w = w' := by
  have IX := Lib.hid (indexfunc_any w v l hr)
  have hb := badAt_ge l 0
  clear hr
  go_enter Try.func86, Try.ntmps86
  go_wp2_with (go_at_call 91; refine IX.out.mono ?_; rintro e w' ⟨rfl, rfl⟩)
  go_ret
  exact ⟨rfl, rfl⟩
end Go.Proofs.Ytlgcnnhlbkidmaa
