import Derived.Test.YtmjjnaaiakchhaaDoorBase
import Derived.Deep.QuietTactic
import Derived.BigQuiet
namespace Go.Proofs.YtmjjnaaiakchhaaDoor
open Go.RowKit

/-- Turned left within 32 bits. -/
def rotl (x k : Int) : Int := bits .or .u32 (x * 2 ^ k.toNat % 4294967296) (x / 2 ^ (32 - k).toNat)

theorem and31 (k : Int) (h0 : 0 ≤ k) (h1 : k ≤ 31) : bits .and .u64 k 31 = k := by
  obtain ⟨n, rfl⟩ := Int.eq_ofNat_of_zero_le h0
  have h : n < 32 := by omega
  have := u64_and_nat n 31 (by omega) (by omega)
  rw [show ((31 : Nat) : Int) = 31 from rfl] at this
  rw [this, show n &&& 31 = n from by rw [nat_mask5]; omega]

set_option maxHeartbeats 400000 in
theorem rot_any (x k : Int) (w : World) (h0 : 0 ≤ k) (h1 : k ≤ 31) :
    Calls Tryd.prog 49 #[.int .u32 x, .int .i64 k] w fun e w' => e = .returned (.int .u32 (rotl x k)) ∧ w = w' := by
  have hb := and31 k h0 h1
  go_enter Tryd.func49, Tryd.ntmps49
  go_wp2
  go_ret
  exact ⟨rfl, rfl⟩

set_option maxHeartbeats 400000 in
theorem turn_any (x k : Int) (w : World) (h0 : 0 ≤ k) (h1 : k ≤ 31) :
    Calls Tryd.prog 66 #[.int .u32 x, .int .i64 k] w fun e w' => e = .returned (.int .u32 (rotl x k)) ∧ ∃ n, w' = w.drewN n := by
  go_enter Tryd.func66, Tryd.ntmps66
  go_wp2
  go_quiet (fail)
  go_wp2
  go_ret
  exact ⟨rfl, ⟨_, rfl⟩⟩

theorem results_tmp4 {fn : Func} {t u v x : Tmp} (h : fn.results = #[.tmp t, .tmp u, .tmp v, .tmp x]) (tmps : Array Value) (P : Program) (w : World) :
    (results fn tmps).run P w = .ok (.tuple #[tmps.getD t undef, tmps.getD u undef, tmps.getD v undef, tmps.getD x undef]) w := by
  simp [results, h]

/-- A quarter round. -/
def quarter (a b c d : Int) : Int × Int × Int × Int :=
  let a := (a + b) % 4294967296
  let d := rotl (bits .xor .u32 d a) 16
  let c := (c + d) % 4294967296
  let b := rotl (bits .xor .u32 b c) 12
  let a := (a + b) % 4294967296
  let d := rotl (bits .xor .u32 d a) 8
  let c := (c + d) % 4294967296
  let b := rotl (bits .xor .u32 b c) 7
  (a, b, c, d)

set_option maxHeartbeats 400000 in
theorem quarter_any (a b c d : Int) (w : World) :
    Calls Tryd.prog 35 #[.int .u32 a, .int .u32 b, .int .u32 c, .int .u32 d] w fun e w' => e = .returned (.tuple #[.int .u32 (quarter a b c d).1, .int .u32 (quarter a b c d).2.1, .int .u32 (quarter a b c d).2.2.1, .int .u32 (quarter a b c d).2.2.2]) ∧ w = w' := by
  go_enter Tryd.func35, Tryd.ntmps35
  go_wp2_with (go_at_call 49; refine (rot_any _ _ _ (by omega) (by omega)).mono ?_; rintro e w' ⟨rfl, rfl⟩)
  refine bodyPost_ret (results_tmp4 Tryd.results35 _ _ _) rfl ?_
  exact ⟨by simp [quarter], rfl⟩

set_option maxHeartbeats 400000 in
theorem rquarter_any (a b c d : Int) (w : World) :
    Calls Tryd.prog 51 #[.int .u32 a, .int .u32 b, .int .u32 c, .int .u32 d] w fun e w' => e = .returned (.agg #[.int .u32 (quarter a b c d).1, .int .u32 (quarter a b c d).2.1, .int .u32 (quarter a b c d).2.2.1, .int .u32 (quarter a b c d).2.2.2]) ∧ Below w.heap.size w w' := by
  go_enter Tryd.func51, Tryd.ntmps51
  go_wp2_with (go_at_call 66; refine (turn_any _ _ _ (by omega) (by omega)).mono ?_; rintro e w' ⟨rfl, _, rfl⟩)

  refine bodyPost_ret (v := .agg #[.int .u32 (quarter a b c d).1, .int .u32 (quarter a b c d).2.1, .int .u32 (quarter a b c d).2.2.1, .int .u32 (quarter a b c d).2.2.2]) (by simp [results, Tryd.results51, go_sem, quarter]) rfl ⟨rfl, ?_⟩
  repeat (first | exact Below.refl _ _ | refine bw_set ?_ _ _ (by simp) _ | refine bw_dr ?_ _ | refine bw_al ?_ (by simp) _)

set_option maxHeartbeats 400000 in
theorem awake02_any (w : World) :
    Calls Tryd.prog 18 #[] w fun e w' => e = .returned (.bool true) ∧ w = w' := by
  have h1 : ((quarter 286331153 16909060 2609737539 19088743).1 == 3928658676) = true := by decide +kernel
  have h2 : ((quarter 286331153 16909060 2609737539 19088743).2.1 == 3407673550) = true := by decide +kernel
  have h3 : ((quarter 286331153 16909060 2609737539 19088743).2.2.1 == 1166100270) = true := by decide +kernel
  have h4 : ((quarter 286331153 16909060 2609737539 19088743).2.2.2 == 1484899515) = true := by decide +kernel
  go_enter Tryd.func18, Tryd.ntmps18
  go_wp2_with (go_at_call 35; refine (quarter_any _ _ _ _ _).mono ?_; rintro e w' ⟨rfl, rfl⟩)
  go_ret
  exact ⟨rfl, rfl⟩
end Go.Proofs.YtmjjnaaiakchhaaDoor
