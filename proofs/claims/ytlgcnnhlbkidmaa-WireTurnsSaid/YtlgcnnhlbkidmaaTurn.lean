/-
  wire.Turn, intaglioref11.Turn: a frame with a byte turned.
-/
import Derived.Test.YtlgcnnhlbkidmaaBytes
import Derived.Test.YtlgcnnhlbkidmaaOwn
import Derived.Deep.DeepCutAuto
namespace Go.Proofs.Ytlgcnnhlbkidmaa
open Go.RowKit

/-- The place that is turned. -/
def turnAt (n : Nat) (at_ : Int) : Nat := (at_ % 18446744073709551616 % n).toNat
def turnB (xs : List Int) (at_ by_ : Int) : List Int := xs.set (turnAt xs.length at_) (bits .xor .u8 (xs.getD (turnAt xs.length at_) 0) by_)
theorem bs_get (xs : List Int) (i : Nat) (h : i < xs.length) : (bs xs)[i]? = some (.int .u8 (xs.getD i 0)) := by simp [bs, List.getD_eq_getElem?_getD, h]
theorem bs_set (xs : List Int) (i : Nat) (x : Int) : (bs xs).set i (.int .u8 x) = bs (xs.set i x) := by simp [bs, List.map_set]

set_option maxHeartbeats 400000 in
theorem wturn_any (v : Value) (xs : List Int) (at_ by_ : Int) (w : World) (hr : Rd w v (bs xs)) (hl : xs.length ≤ 70368744177664) :
    Calls Try.prog 18 #[v, .int .i64 at_, .int .u8 by_] w fun e w' => NewB (turnB xs at_ by_) w e w' := by
  have HC := Lib.hid (fun _ : Unit => clone_any v xs w hr (by omega))
  clear hr
  go_enter Try.func18, Try.ntmps18
  go_upto_region 2 with (go_at_call 17; refine (HC.out ()).mono ?_; rintro e w' ⟨v', rfl, hb, ho⟩)
  rcases ownsRow_cases ho with ⟨rfl, hn, hx⟩ | ⟨g, cap, rfl, hg1, hg2, hc1, hc2, hcell, hfr, hset⟩
  · obtain rfl : xs = [] := List.eq_nil_of_length_eq_zero hn
    go_wp2_with fail
    go_ret
    exact ⟨_, rfl, hb, by simpa [turnB] using ho⟩
  · by_cases h0 : xs.length = 0
    · obtain rfl : xs = [] := List.eq_nil_of_length_eq_zero h0
      go_wp2_with fail
      go_ret
      exact ⟨_, rfl, hb, by simpa [turnB] using ho⟩
    · have hw : IntKind.u64.wrap at_ = at_ % 18446744073709551616 := by simp [IntKind.wrap, IntKind.bits, IntKind.signed]
      have hp := Int.emod_nonneg at_ (show (18446744073709551616 : Int) ≠ 0 by decide)
      have hn : (0 : Int) < xs.length := by omega
      obtain ⟨k, hk⟩ : ∃ k, k = turnAt xs.length at_ := ⟨_, rfl⟩
      have hjz : (IntKind.u64.wrap at_).tmod (xs.length : Int) = (k : Int) := by
        rw [hw, Int.tmod_eq_emod_of_nonneg hp, hk, turnAt]
        have := Int.emod_nonneg (at_ % 18446744073709551616) (show (xs.length : Int) ≠ 0 by omega)
        omega
      have hj : k < xs.length := by
        have := Int.emod_lt_of_pos (at_ % 18446744073709551616) hn
        rw [hw, Int.tmod_eq_emod_of_nonneg hp] at hjz
        omega
      have c := hcell k _ (bs_get xs _ hj)
      have c1 := hfr k
      have hs := hset k (.int .u8 (bits .xor .u8 (xs.getD k 0) by_)) hj
      rw [bs_set] at hs
      have hT : turnB xs at_ by_ = xs.set k (bits .xor .u8 (xs.getD k 0) by_) := by rw [turnB, ← hk]
      have HT := Lib.hid (fun _ : Unit => hT)
      have HO := Lib.hid hs
      clear hw hk hcell hfr hset hs hT ho
      go_wp2_with fail
      go_ret
      refine ⟨_, rfl, ?_, ?_⟩
      · exact bw_set hb _ _ hg1 _
      · rw [HT.out ()]
        have := HO.out
        simpa [List.getD_eq_getElem?_getD, hj] using this
end Go.Proofs.Ytlgcnnhlbkidmaa
