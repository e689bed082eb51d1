import Derived.Test.YtmjjnaaiakchhaaMul
import Derived.Test.YtmjjnaaiakchhaaTurns
import Derived.Test.YtmjjnaaiakchhaaFold
import Derived.Test.YtmjjnaaiakchhaaSub
import Derived.Test.YtmjjnaaiakchhaaPack
/-
  (*poly.Mac).times.
-/
namespace Go.Proofs.Ytmjjnaaiakchhaa
open Go.RowKit
set_option linter.unusedVariables false

/-- M^4. -/
def w4 : Int := 115792089237316195423570985008687907853269984665640564039457584007913129639936
def tv (o0 o1 o2 o3 : Int) : Int := o0 + 18446744073709551616 * o1 + 340282366920938463463374607431768211456 * o2 + 6277101735386680763835789423207666416102355444464034512896 * o3
def IsW1 (x : Int) : Prop := 0 ≤ x ∧ x ≤ 18446744073709551615
/-- What has been summed behind so many products. -/
def tS (p00 p01 p10 p11 p20 p21 : Int) : Nat → Int
  | 0 => 0
  | 1 => p00
  | 2 => p00 + 18446744073709551616 * p01
  | 3 => p00 + 18446744073709551616 * p01 + 18446744073709551616 * p10
  | 4 => p00 + 18446744073709551616 * p01 + 18446744073709551616 * p10 + 340282366920938463463374607431768211456 * p11
  | 5 => p00 + 18446744073709551616 * p01 + 18446744073709551616 * p10 + 340282366920938463463374607431768211456 * p11 + 340282366920938463463374607431768211456 * p20
  | _ => p00 + 18446744073709551616 * p01 + 18446744073709551616 * p10 + 340282366920938463463374607431768211456 * p11 + 340282366920938463463374607431768211456 * p20 + 6277101735386680763835789423207666416102355444464034512896 * p21

theorem t_j0 {o0 o1 o2 o3 p S : Int} (h0 : IsW1 o0) (h1 : IsW1 o1) (h2 : o2 = 0) (h3 : IsW1 o3) (hp : 0 ≤ p ∧ p ≤ 340282366920938463426481119284349108225) (hs : ∃ t, tv o0 o1 o2 o3 = S + w4 * t) :
    ∃ n0 n1 n2 : Int, n0 = (o0 + p % 18446744073709551616 + 0) % 18446744073709551616 ∧ n1 = (o1 + p / 18446744073709551616 + (o0 + p % 18446744073709551616 + 0) / 18446744073709551616) % 18446744073709551616 ∧ n2 = (o2 + (o1 + p / 18446744073709551616 + (o0 + p % 18446744073709551616 + 0) / 18446744073709551616) / 18446744073709551616) % 18446744073709551616 ∧
      IsW1 n0 ∧ IsW1 n1 ∧ IsW1 n2 ∧ ∃ t, tv n0 n1 n2 o3 = S + p + w4 * t := by
  refine ⟨_, _, _, rfl, rfl, rfl, ?_, ?_, ?_, ?_⟩ <;> unfold IsW1 at * <;> try omega
  obtain ⟨t, ht⟩ := hs
  refine ⟨t, ?_⟩
  unfold tv at *
  omega
theorem t_j1 {o0 o1 o2 o3 p S : Int} (h0 : IsW1 o0) (h1 : IsW1 o1) (h2 : IsW1 o2) (h3 : IsW1 o3) (hp : 0 ≤ p ∧ p ≤ 340282366920938463426481119284349108225) (hs : ∃ t, tv o0 o1 o2 o3 = S + w4 * t) :
    ∃ n1 n2 n3 : Int, n1 = (o1 + p % 18446744073709551616 + 0) % 18446744073709551616 ∧ n2 = (o2 + p / 18446744073709551616 + (o1 + p % 18446744073709551616 + 0) / 18446744073709551616) % 18446744073709551616 ∧ n3 = (o3 + (o2 + p / 18446744073709551616 + (o1 + p % 18446744073709551616 + 0) / 18446744073709551616) / 18446744073709551616) % 18446744073709551616 ∧
      IsW1 n1 ∧ IsW1 n2 ∧ IsW1 n3 ∧ ∃ t, tv o0 n1 n2 n3 = S + 18446744073709551616 * p + w4 * t := by
  refine ⟨_, _, _, rfl, rfl, rfl, ?_, ?_, ?_, ?_⟩ <;> unfold IsW1 at * <;> try omega
  obtain ⟨t, ht⟩ := hs
  refine ⟨t - (o3 + (o2 + p / 18446744073709551616 + (o1 + p % 18446744073709551616 + 0) / 18446744073709551616) / 18446744073709551616) / 18446744073709551616, ?_⟩
  unfold tv w4 at *
  omega
theorem t_j2 {o0 o1 o2 o3 p S : Int} (h0 : IsW1 o0) (h1 : IsW1 o1) (h2 : IsW1 o2) (h3 : IsW1 o3) (hp : 0 ≤ p ∧ p ≤ 340282366920938463426481119284349108225) (hs : ∃ t, tv o0 o1 o2 o3 = S + w4 * t) :
    ∃ n2 n3 : Int, n2 = (o2 + p % 18446744073709551616 + 0) % 18446744073709551616 ∧ n3 = (o3 + p / 18446744073709551616 + (o2 + p % 18446744073709551616 + 0) / 18446744073709551616) % 18446744073709551616 ∧
      IsW1 n2 ∧ IsW1 n3 ∧ ∃ t, tv o0 o1 n2 n3 = S + 340282366920938463463374607431768211456 * p + w4 * t := by
  refine ⟨_, _, rfl, rfl, ?_, ?_, ?_⟩ <;> unfold IsW1 at * <;> try omega
  obtain ⟨t, ht⟩ := hs
  refine ⟨t - (o3 + p / 18446744073709551616 + (o2 + p % 18446744073709551616 + 0) / 18446744073709551616) / 18446744073709551616, ?_⟩
  unfold tv w4 at *
  omega
theorem t_j3 {o0 o1 o2 o3 p S : Int} (h0 : IsW1 o0) (h1 : IsW1 o1) (h2 : IsW1 o2) (h3 : IsW1 o3) (hp : 0 ≤ p ∧ p ≤ 340282366920938463426481119284349108225) (hs : ∃ t, tv o0 o1 o2 o3 = S + w4 * t) :
    ∃ n3 : Int, n3 = (o3 + p % 18446744073709551616 + 0) % 18446744073709551616 ∧ IsW1 n3 ∧ ∃ t, tv o0 o1 o2 n3 = S + 6277101735386680763835789423207666416102355444464034512896 * p + w4 * t := by
  refine ⟨_, rfl, ?_, ?_⟩ <;> unfold IsW1 at * <;> try omega
  obtain ⟨t, ht⟩ := hs
  refine ⟨t - (p / 18446744073709551616 + (o3 + p % 18446744073709551616 + 0) / 18446744073709551616), ?_⟩
  unfold tv w4 at *
  omega
theorem mul_range {x y : Int} (hx : IsW1 x) (hy : IsW1 y) : 0 ≤ x * y ∧ x * y ≤ 340282366920938463426481119284349108225 := by
  refine ⟨Int.mul_nonneg hx.1 hy.1, ?_⟩
  have h1 : x * y ≤ 18446744073709551615 * y := Int.mul_le_mul_of_nonneg_right hx.2 hy.1
  have := hy.2
  omega

/-- Where the product stands. -/
structure TWInv (w wr : World) (B : Nat) (a0 a1 a2 : Int) (o0 o1 o2 o3 : Int) (S : Int) : Prop where
  x : Blk wr B (uq [a0, a1, a2]) 49
  z : Blk wr (B + 1) (uq [0, 0, 0, 0]) 72
  o : Blk wr (B + 1 + 1) (uq [o0, o1, o2, o3]) 72
  w0 : IsW1 o0
  w1 : IsW1 o1
  w2 : IsW1 o2
  w3 : IsW1 o3
  v : ∃ t, tv o0 o1 o2 o3 = S + w4 * t
  b : Below B w wr
end Go.Proofs.Ytmjjnaaiakchhaa

/-
  (*poly.Mac).times.
-/
namespace Go.Proofs.Ytmjjnaaiakchhaa
open Go.RowKit

/-- A Mac's cells. -/
def macC (held : Value) (r0 r1 s0 s1 s2 a0 a1 a2 : Int) (on : Bool) : List Value := [held, .int .u64 r0, .int .u64 r1, .int .u64 s0, .int .u64 s1, .int .u64 s2, .int .u64 a0, .int .u64 a1, .int .u64 a2, .bool on]
theorem TWInv.stay {w wr w' : World} {B : Nat} {a0 a1 a2 o0 o1 o2 o3 S : Int} (h : TWInv w wr B a0 a1 a2 o0 o1 o2 o3 S) (hb : Below wr.heap.size wr w') : TWInv w w' B a0 a1 a2 o0 o1 o2 o3 S :=
  ⟨h.x.stay hb, h.z.stay hb, h.o.stay hb, h.w0, h.w1, h.w2, h.w3, h.v, bw_then h.b hb (Nat.le_of_lt h.x.lt)⟩
structure Prods (a0 a1 a2 r0 r1 p00 p01 p10 p11 p20 p21 : Int) : Prop where
  p00 : a0 * r0 = p00
  p01 : a0 * r1 = p01
  p10 : a1 * r0 = p10
  p11 : a1 * r1 = p11
  p20 : a2 * r0 = p20
  p21 : a2 * r1 = p21
theorem prods_val {a0 a1 a2 r0 r1 p00 p01 p10 p11 p20 p21 : Int} (h : Prods a0 a1 a2 r0 r1 p00 p01 p10 p11 p20 p21) : tS p00 p01 p10 p11 p20 p21 6 = leW [a0, a1, a2] * leW [r0, r1] := by
  obtain ⟨h0, h1, h2, h3, h4, h5⟩ := h
  simp only [tS, leW, Int.mul_zero, Int.add_zero]
  rw [← h0, ← h1, ← h2, ← h3, ← h4, ← h5]
  simp only [Int.add_mul, Int.mul_add, Int.mul_assoc, Int.mul_left_comm a0, Int.mul_left_comm a1, Int.mul_left_comm a2]
  omega

set_option maxRecDepth 100000 in
set_option maxHeartbeats 8000000 in
theorem timesw_any (w : World) (g : Nat) (held : Value) (r0 r1 s0 s1 s2 b0 b1 b2 : Int) (on : Bool) (a0 a1 a2 : Int) (hm : Blk w g (macC held r0 r1 s0 s1 s2 b0 b1 b2 on) 51) (hr : IsW1 r0 ∧ IsW1 r1) (ha : IsW1 a0 ∧ IsW1 a1 ∧ IsW1 a2)
    (hsm : leW [a0, a1, a2] * leW [r0, r1] < w4) :
    Calls Try.prog 39 #[.pointer (some ⟨g, 0, none⟩), .agg (uq [a0, a1, a2]).toArray] w fun e w' => ∃ o0 o1 o2 o3, e = .returned (.agg (uq [o0, o1, o2, o3]).toArray) ∧ IsW [o0, o1, o2, o3] ∧ leW [o0, o1, o2, o3] = leW [a0, a1, a2] * leW [r0, r1] ∧ Below w.heap.size w w' := by
  obtain ⟨p00, p01, p10, p11, p20, p21, hP⟩ : ∃ p00 p01 p10 p11 p20 p21, Prods a0 a1 a2 r0 r1 p00 p01 p10 p11 p20 p21 := ⟨_, _, _, _, _, _, rfl, rfl, rfl, rfl, rfl, rfl⟩
  have HP := Lib.hid hP
  have HW := Lib.hid ha
  have HR := Lib.hid hr
  have HM := Lib.hid hm
  have HSM := Lib.hid hsm
  have hgl : g < w.heap.size := hm.lt
  clear hP ha hr hm hsm
  obtain ⟨B, hB⟩ : ∃ B, w.heap.size = B := ⟨_, rfl⟩
  go_enter Try.func39, Try.ntmps39
  go_upto_region 2 with fail
  change Code.wp _ _ _ _ (((w.alloc (.cells (uq [a0, a1, a2]).toArray 49)).alloc (.cells (uq [0, 0, 0, 0]).toArray 72)).alloc (.cells (uq [0, 0, 0, 0]).toArray 72))
  have inv0 : TWInv w (((w.alloc (.cells (uq [a0, a1, a2]).toArray 49)).alloc (.cells (uq [0, 0, 0, 0]).toArray 72)).alloc (.cells (uq [0, 0, 0, 0]).toArray 72)) B a0 a1 a2 0 0 0 0 (tS p00 p01 p10 p11 p20 p21 0) :=
    ⟨((Blk.mk_ _ hB.symm rfl).al _).al _, (Blk.mk_ _ (by simp [hB]) rfl).al _, Blk.mk_ _ (by simp [hB]) rfl, ⟨Int.le_refl _, by decide⟩, ⟨Int.le_refl _, by decide⟩, ⟨Int.le_refl _, by decide⟩, ⟨Int.le_refl _, by decide⟩, ⟨0, rfl⟩, bw_al (bw_al (bw_al (Below.refl _ _) (by omega) _) (by simp; omega) _) (by simp; omega) _⟩
  generalize (((w.alloc (.cells (uq [a0, a1, a2]).toArray 49)).alloc (.cells (uq [0, 0, 0, 0]).toArray 72)).alloc (.cells (uq [0, 0, 0, 0]).toArray 72)) = w1 at *
  have ix0 : ∀ w, (Instr.index 47 (.agg (uq [r0, r1]).toArray) (.int .i64 0)).run Try.prog w = .ok (.int .u64 r0) w := fun _ => by kernel_rfl
  have ix1 : ∀ w, (Instr.index 47 (.agg (uq [r0, r1]).toArray) (.int .i64 1)).run Try.prog w = .ok (.int .u64 r1) w := fun _ => by kernel_rfl
  have kr := load_fact HM.out 47 1 (ys := uq [r0, r1]) rfl Try.underlying47 rfl (n := 2) (by kernel_rfl) rfl
  rw [hB] at kr hgl
  have HIN := Lib.hid inv0
  clear inv0
  go_wp2_with fail
  go_loopw [12] (fun x wr => ∃ (i : Nat) (o0 o1 o2 o3 : Int), i ≤ 3 ∧ x = .int .i64 i ∧ TWInv w wr B a0 a1 a2 o0 o1 o2 o3 (tS p00 p01 p10 p11 p20 p21 (2 * i)) ∧ (i = 0 → o2 = 0)) (fun x _ => 3 - (intOf x).toNat)
  case atStart => exact ⟨0, 0, 0, 0, 0, by decide, rfl, HIN.out, fun _ => rfl⟩
  case round =>
    obtain ⟨i, o0, o1, o2, o3, hi3, rfl, inv, h20⟩ := hrel
    obtain ⟨wo, rfl⟩ : ∃ wo : World, wo = wr := ⟨_, rfl⟩
    have hbo : Below B w wo := inv.b
    match i, hi3 with
    | 0, _ =>
      have HI0 := Lib.hid inv
      have H20 := Lib.hid h20
      clear inv h20
      go_upto_region 6 with (refine wp_load_f rfl 47 (.tmp 17) rfl rfl (kr _ (by assumption)) ?_)
      go_loopw [19] (fun x wr => ∃ (k : Nat) (o0 o1 o2 o3 : Int), k ≤ 2 ∧ x = .int .i64 k ∧ TWInv w wr B a0 a1 a2 o0 o1 o2 o3 (tS p00 p01 p10 p11 p20 p21 (0 + k)) ∧ (0 + k = 0 → o2 = 0)) (fun x _ => 2 - (intOf x).toNat)
      case atStart => exact ⟨0, o0, o1, o2, o3, by decide, rfl, HI0.out, fun _ => H20.out (by simp)⟩
      case round =>
        obtain ⟨k, o0, o1, o2, o3, hk2, rfl, inv, h20⟩ := hrel
        match k, hk2 with
        | 0, _ =>
          have H2Z := Lib.hid (fun _ : Unit => (h20 (by simp) : o2 = 0))
          clear h20
          obtain ⟨p, hp⟩ : ∃ p, a0 * r0 = p := ⟨_, rfl⟩
          have hpr := mul_range HW.out.1 HR.out.1
          rw [hp] at hpr
          have MU := Lib.hid (fun w => mul64_any w a0 r0 HW.out.1 HR.out.1)
          rw [hp] at MU
          obtain ⟨lo, hlo⟩ : ∃ lo, p % 18446744073709551616 = lo := ⟨_, rfl⟩
          obtain ⟨hi, hhi⟩ : ∃ hi, p / 18446744073709551616 = hi := ⟨_, rfl⟩
          rw [hlo, hhi] at MU
          have hlr : 0 ≤ lo ∧ lo ≤ 18446744073709551615 := by omega
          have hhr : 0 ≤ hi ∧ hi ≤ 18446744073709551615 := by omega
          have HI := Lib.hid inv
          have ex : wr.cell? ⟨B, 0, none⟩ = some (.int .u64 a0) := inv.x.at_ 0 rfl
          clear inv
          go_upto_region 9 with (go_at_call 47; refine (MU.out _).mono ?_; rintro e wm ⟨rfl, hbm⟩)
          have i2 := HI.out.stay hbm
          have e0 : wm.cell? ⟨B + 1 + 1, 0, none⟩ = some (.int .u64 o0) := i2.o.at_ 0 rfl
          have f0 := i2.o.free 0
          have e1 : wm.cell? ⟨B + 1 + 1, 1, none⟩ = some (.int .u64 o1) := i2.o.at_ 1 rfl
          have f1 := i2.o.free 1
          have e2 : wm.cell? ⟨B + 1 + 1, 2, none⟩ = some (.int .u64 o2) := i2.o.at_ 2 rfl
          have f2 := i2.o.free 2
          have w0 := i2.w0
          have w1 := i2.w1
          have w2 := i2.w2
          have w3 := i2.w3
          unfold IsW1 at w0 w1 w2 w3
          have hA1 := add64_run o0 lo 0 w0.1 hlr.1 (Int.le_refl _) (by decide)
          obtain ⟨n0, hn0⟩ : ∃ n, (o0 + lo + 0) % 18446744073709551616 = n := ⟨_, rfl⟩
          obtain ⟨c1, hc1⟩ : ∃ c, (o0 + lo + 0) / 18446744073709551616 = c := ⟨_, rfl⟩
          rw [hn0, hc1] at hA1
          have hcr : 0 ≤ c1 ∧ c1 ≤ 1 := by omega
          have hA2 := add64_run o1 hi c1 w1.1 hhr.1 hcr.1 hcr.2
          obtain ⟨n1, hn1⟩ : ∃ n, (o1 + hi + c1) % 18446744073709551616 = n := ⟨_, rfl⟩
          obtain ⟨c2, hc2⟩ : ∃ c, (o1 + hi + c1) / 18446744073709551616 = c := ⟨_, rfl⟩
          rw [hn1, hc2] at hA2
          have hcr2 : 0 ≤ c2 ∧ c2 ≤ 1 := by omega
          obtain ⟨n2, hn2⟩ : ∃ n, (o2 + c2) % 18446744073709551616 = n := ⟨_, rfl⟩
          have hW : IntKind.u64.wrap (o2 + c2) = n2 := by rw [IntKind.wrap_u64]; exact hn2
          have TS := t_j0 HI.out.w0 HI.out.w1 (H2Z.out ()) HI.out.w3 hpr HI.out.v
          rw [hlo, hhi] at TS
          obtain ⟨m0, m1, m2, em0, em1, em2, wm0, wm1, wm2, hv⟩ := TS
          rw [hn0] at em0
          rw [hc1, hn1] at em1
          rw [hc1, hc2, hn2] at em2
          subst em0 em1 em2
          have i3 : TWInv w (((wm.setCell ⟨B + 1 + 1, 0, none⟩ (.int .u64 m0)).setCell ⟨B + 1 + 1, 1, none⟩ (.int .u64 m1)).setCell ⟨B + 1 + 1, 2, none⟩ (.int .u64 m2)) B a0 a1 a2 m0 m1 m2 o3 (tS p00 p01 p10 p11 p20 p21 1) := by
            refine ⟨(((i2.x.other (a := ⟨B + 1 + 1, 0, none⟩) (by show B ≠ B + 1 + 1; omega) (.int .u64 m0)).other (a := ⟨B + 1 + 1, 1, none⟩) (by show B ≠ B + 1 + 1; omega) (.int .u64 m1)).other (a := ⟨B + 1 + 1, 2, none⟩) (by show B ≠ B + 1 + 1; omega) (.int .u64 m2)), (((i2.z.other (a := ⟨B + 1 + 1, 0, none⟩) (by show B + 1 ≠ B + 1 + 1; omega) (.int .u64 m0)).other (a := ⟨B + 1 + 1, 1, none⟩) (by show B + 1 ≠ B + 1 + 1; omega) (.int .u64 m1)).other (a := ⟨B + 1 + 1, 2, none⟩) (by show B + 1 ≠ B + 1 + 1; omega) (.int .u64 m2)), (((i2.o.set 0 (.int .u64 m0)).set 1 (.int .u64 m1)).set 2 (.int .u64 m2)), wm0, wm1, wm2, HI.out.w3, ?_, (((i2.b.setCell (p := ⟨B + 1 + 1, 0, none⟩) (by show B ≤ B + 1 + 1; omega) (.int .u64 m0)).setCell (p := ⟨B + 1 + 1, 1, none⟩) (by show B ≤ B + 1 + 1; omega) (.int .u64 m1)).setCell (p := ⟨B + 1 + 1, 2, none⟩) (by show B ≤ B + 1 + 1; omega) (.int .u64 m2))⟩
            rw [← hp, HP.out.p00] at hv
            simpa [tS] using hv
          have HI3 := Lib.hid i3
          clear i3 i2 hv hn0 hc1 hp hlo hhi hn1 hc2 hn2
          go_wp2_with fail
          exact ⟨⟨1, _, _, _, _, by decide, rfl, HI3.out, fun h => by cases h⟩, by decide⟩
        | 1, _ =>
          clear h20
          obtain ⟨p, hp⟩ : ∃ p, a0 * r1 = p := ⟨_, rfl⟩
          have hpr := mul_range HW.out.1 HR.out.2
          rw [hp] at hpr
          have MU := Lib.hid (fun w => mul64_any w a0 r1 HW.out.1 HR.out.2)
          rw [hp] at MU
          obtain ⟨lo, hlo⟩ : ∃ lo, p % 18446744073709551616 = lo := ⟨_, rfl⟩
          obtain ⟨hi, hhi⟩ : ∃ hi, p / 18446744073709551616 = hi := ⟨_, rfl⟩
          rw [hlo, hhi] at MU
          have hlr : 0 ≤ lo ∧ lo ≤ 18446744073709551615 := by omega
          have hhr : 0 ≤ hi ∧ hi ≤ 18446744073709551615 := by omega
          have HI := Lib.hid inv
          have ex : wr.cell? ⟨B, 0, none⟩ = some (.int .u64 a0) := inv.x.at_ 0 rfl
          clear inv
          go_upto_region 9 with (go_at_call 47; refine (MU.out _).mono ?_; rintro e wm ⟨rfl, hbm⟩)
          have i2 := HI.out.stay hbm
          have e1 : wm.cell? ⟨B + 1 + 1, 1, none⟩ = some (.int .u64 o1) := i2.o.at_ 1 rfl
          have f1 := i2.o.free 1
          have e2 : wm.cell? ⟨B + 1 + 1, 2, none⟩ = some (.int .u64 o2) := i2.o.at_ 2 rfl
          have f2 := i2.o.free 2
          have e3 : wm.cell? ⟨B + 1 + 1, 3, none⟩ = some (.int .u64 o3) := i2.o.at_ 3 rfl
          have f3 := i2.o.free 3
          have w0 := i2.w0
          have w1 := i2.w1
          have w2 := i2.w2
          have w3 := i2.w3
          unfold IsW1 at w0 w1 w2 w3
          have hA1 := add64_run o1 lo 0 w1.1 hlr.1 (Int.le_refl _) (by decide)
          obtain ⟨n1, hn1⟩ : ∃ n, (o1 + lo + 0) % 18446744073709551616 = n := ⟨_, rfl⟩
          obtain ⟨c1, hc1⟩ : ∃ c, (o1 + lo + 0) / 18446744073709551616 = c := ⟨_, rfl⟩
          rw [hn1, hc1] at hA1
          have hcr : 0 ≤ c1 ∧ c1 ≤ 1 := by omega
          have hA2 := add64_run o2 hi c1 w2.1 hhr.1 hcr.1 hcr.2
          obtain ⟨n2, hn2⟩ : ∃ n, (o2 + hi + c1) % 18446744073709551616 = n := ⟨_, rfl⟩
          obtain ⟨c2, hc2⟩ : ∃ c, (o2 + hi + c1) / 18446744073709551616 = c := ⟨_, rfl⟩
          rw [hn2, hc2] at hA2
          have hcr2 : 0 ≤ c2 ∧ c2 ≤ 1 := by omega
          obtain ⟨n3, hn3⟩ : ∃ n, (o3 + c2) % 18446744073709551616 = n := ⟨_, rfl⟩
          have hW : IntKind.u64.wrap (o3 + c2) = n3 := by rw [IntKind.wrap_u64]; exact hn3
          have TS := t_j1 HI.out.w0 HI.out.w1 HI.out.w2 HI.out.w3 hpr HI.out.v
          rw [hlo, hhi] at TS
          obtain ⟨m1, m2, m3, em1, em2, em3, wm1, wm2, wm3, hv⟩ := TS
          rw [hn1] at em1
          rw [hc1, hn2] at em2
          rw [hc1, hc2, hn3] at em3
          subst em1 em2 em3
          have i3 : TWInv w (((wm.setCell ⟨B + 1 + 1, 1, none⟩ (.int .u64 m1)).setCell ⟨B + 1 + 1, 2, none⟩ (.int .u64 m2)).setCell ⟨B + 1 + 1, 3, none⟩ (.int .u64 m3)) B a0 a1 a2 o0 m1 m2 m3 (tS p00 p01 p10 p11 p20 p21 2) := by
            refine ⟨(((i2.x.other (a := ⟨B + 1 + 1, 1, none⟩) (by show B ≠ B + 1 + 1; omega) (.int .u64 m1)).other (a := ⟨B + 1 + 1, 2, none⟩) (by show B ≠ B + 1 + 1; omega) (.int .u64 m2)).other (a := ⟨B + 1 + 1, 3, none⟩) (by show B ≠ B + 1 + 1; omega) (.int .u64 m3)), (((i2.z.other (a := ⟨B + 1 + 1, 1, none⟩) (by show B + 1 ≠ B + 1 + 1; omega) (.int .u64 m1)).other (a := ⟨B + 1 + 1, 2, none⟩) (by show B + 1 ≠ B + 1 + 1; omega) (.int .u64 m2)).other (a := ⟨B + 1 + 1, 3, none⟩) (by show B + 1 ≠ B + 1 + 1; omega) (.int .u64 m3)), (((i2.o.set 1 (.int .u64 m1)).set 2 (.int .u64 m2)).set 3 (.int .u64 m3)), HI.out.w0, wm1, wm2, wm3, ?_, (((i2.b.setCell (p := ⟨B + 1 + 1, 1, none⟩) (by show B ≤ B + 1 + 1; omega) (.int .u64 m1)).setCell (p := ⟨B + 1 + 1, 2, none⟩) (by show B ≤ B + 1 + 1; omega) (.int .u64 m2)).setCell (p := ⟨B + 1 + 1, 3, none⟩) (by show B ≤ B + 1 + 1; omega) (.int .u64 m3))⟩
            rw [← hp, HP.out.p01] at hv
            exact hv
          have HI3 := Lib.hid i3
          clear i3 i2 hv hn1 hc1 hp hlo hhi hn2 hc2 hn3
          go_wp2_with fail
          exact ⟨⟨2, _, _, _, _, by decide, rfl, HI3.out, fun h => by cases h⟩, by decide⟩
        | 2, _ =>
          have HI2 := Lib.hid inv
          clear inv
          go_wp2_with fail
          exact ⟨⟨1, _, _, _, _, by decide, rfl, HI2.out, fun h => by cases h⟩, by decide⟩
    | 1, _ =>
      have HI0 := Lib.hid inv
      have H20 := Lib.hid h20
      clear inv h20
      go_upto_region 6 with (refine wp_load_f rfl 47 (.tmp 17) rfl rfl (kr _ (by assumption)) ?_)
      go_loopw [19] (fun x wr => ∃ (k : Nat) (o0 o1 o2 o3 : Int), k ≤ 2 ∧ x = .int .i64 k ∧ TWInv w wr B a0 a1 a2 o0 o1 o2 o3 (tS p00 p01 p10 p11 p20 p21 (2 + k)) ∧ (2 + k = 0 → o2 = 0)) (fun x _ => 2 - (intOf x).toNat)
      case atStart => exact ⟨0, o0, o1, o2, o3, by decide, rfl, HI0.out, fun h => by omega⟩
      case round =>
        obtain ⟨k, o0, o1, o2, o3, hk2, rfl, inv, h20⟩ := hrel
        match k, hk2 with
        | 0, _ =>
          clear h20
          obtain ⟨p, hp⟩ : ∃ p, a1 * r0 = p := ⟨_, rfl⟩
          have hpr := mul_range HW.out.2.1 HR.out.1
          rw [hp] at hpr
          have MU := Lib.hid (fun w => mul64_any w a1 r0 HW.out.2.1 HR.out.1)
          rw [hp] at MU
          obtain ⟨lo, hlo⟩ : ∃ lo, p % 18446744073709551616 = lo := ⟨_, rfl⟩
          obtain ⟨hi, hhi⟩ : ∃ hi, p / 18446744073709551616 = hi := ⟨_, rfl⟩
          rw [hlo, hhi] at MU
          have hlr : 0 ≤ lo ∧ lo ≤ 18446744073709551615 := by omega
          have hhr : 0 ≤ hi ∧ hi ≤ 18446744073709551615 := by omega
          have HI := Lib.hid inv
          have ex : wr.cell? ⟨B, 1, none⟩ = some (.int .u64 a1) := inv.x.at_ 1 rfl
          clear inv
          go_upto_region 9 with (go_at_call 47; refine (MU.out _).mono ?_; rintro e wm ⟨rfl, hbm⟩)
          have i2 := HI.out.stay hbm
          have e1 : wm.cell? ⟨B + 1 + 1, 1, none⟩ = some (.int .u64 o1) := i2.o.at_ 1 rfl
          have f1 := i2.o.free 1
          have e2 : wm.cell? ⟨B + 1 + 1, 2, none⟩ = some (.int .u64 o2) := i2.o.at_ 2 rfl
          have f2 := i2.o.free 2
          have e3 : wm.cell? ⟨B + 1 + 1, 3, none⟩ = some (.int .u64 o3) := i2.o.at_ 3 rfl
          have f3 := i2.o.free 3
          have w0 := i2.w0
          have w1 := i2.w1
          have w2 := i2.w2
          have w3 := i2.w3
          unfold IsW1 at w0 w1 w2 w3
          have hA1 := add64_run o1 lo 0 w1.1 hlr.1 (Int.le_refl _) (by decide)
          obtain ⟨n1, hn1⟩ : ∃ n, (o1 + lo + 0) % 18446744073709551616 = n := ⟨_, rfl⟩
          obtain ⟨c1, hc1⟩ : ∃ c, (o1 + lo + 0) / 18446744073709551616 = c := ⟨_, rfl⟩
          rw [hn1, hc1] at hA1
          have hcr : 0 ≤ c1 ∧ c1 ≤ 1 := by omega
          have hA2 := add64_run o2 hi c1 w2.1 hhr.1 hcr.1 hcr.2
          obtain ⟨n2, hn2⟩ : ∃ n, (o2 + hi + c1) % 18446744073709551616 = n := ⟨_, rfl⟩
          obtain ⟨c2, hc2⟩ : ∃ c, (o2 + hi + c1) / 18446744073709551616 = c := ⟨_, rfl⟩
          rw [hn2, hc2] at hA2
          have hcr2 : 0 ≤ c2 ∧ c2 ≤ 1 := by omega
          obtain ⟨n3, hn3⟩ : ∃ n, (o3 + c2) % 18446744073709551616 = n := ⟨_, rfl⟩
          have hW : IntKind.u64.wrap (o3 + c2) = n3 := by rw [IntKind.wrap_u64]; exact hn3
          have TS := t_j1 HI.out.w0 HI.out.w1 HI.out.w2 HI.out.w3 hpr HI.out.v
          rw [hlo, hhi] at TS
          obtain ⟨m1, m2, m3, em1, em2, em3, wm1, wm2, wm3, hv⟩ := TS
          rw [hn1] at em1
          rw [hc1, hn2] at em2
          rw [hc1, hc2, hn3] at em3
          subst em1 em2 em3
          have i3 : TWInv w (((wm.setCell ⟨B + 1 + 1, 1, none⟩ (.int .u64 m1)).setCell ⟨B + 1 + 1, 2, none⟩ (.int .u64 m2)).setCell ⟨B + 1 + 1, 3, none⟩ (.int .u64 m3)) B a0 a1 a2 o0 m1 m2 m3 (tS p00 p01 p10 p11 p20 p21 3) := by
            refine ⟨(((i2.x.other (a := ⟨B + 1 + 1, 1, none⟩) (by show B ≠ B + 1 + 1; omega) (.int .u64 m1)).other (a := ⟨B + 1 + 1, 2, none⟩) (by show B ≠ B + 1 + 1; omega) (.int .u64 m2)).other (a := ⟨B + 1 + 1, 3, none⟩) (by show B ≠ B + 1 + 1; omega) (.int .u64 m3)), (((i2.z.other (a := ⟨B + 1 + 1, 1, none⟩) (by show B + 1 ≠ B + 1 + 1; omega) (.int .u64 m1)).other (a := ⟨B + 1 + 1, 2, none⟩) (by show B + 1 ≠ B + 1 + 1; omega) (.int .u64 m2)).other (a := ⟨B + 1 + 1, 3, none⟩) (by show B + 1 ≠ B + 1 + 1; omega) (.int .u64 m3)), (((i2.o.set 1 (.int .u64 m1)).set 2 (.int .u64 m2)).set 3 (.int .u64 m3)), HI.out.w0, wm1, wm2, wm3, ?_, (((i2.b.setCell (p := ⟨B + 1 + 1, 1, none⟩) (by show B ≤ B + 1 + 1; omega) (.int .u64 m1)).setCell (p := ⟨B + 1 + 1, 2, none⟩) (by show B ≤ B + 1 + 1; omega) (.int .u64 m2)).setCell (p := ⟨B + 1 + 1, 3, none⟩) (by show B ≤ B + 1 + 1; omega) (.int .u64 m3))⟩
            rw [← hp, HP.out.p10] at hv
            exact hv
          have HI3 := Lib.hid i3
          clear i3 i2 hv hn1 hc1 hp hlo hhi hn2 hc2 hn3
          go_wp2_with fail
          exact ⟨⟨1, _, _, _, _, by decide, rfl, HI3.out, fun h => by cases h⟩, by decide⟩
        | 1, _ =>
          clear h20
          obtain ⟨p, hp⟩ : ∃ p, a1 * r1 = p := ⟨_, rfl⟩
          have hpr := mul_range HW.out.2.1 HR.out.2
          rw [hp] at hpr
          have MU := Lib.hid (fun w => mul64_any w a1 r1 HW.out.2.1 HR.out.2)
          rw [hp] at MU
          obtain ⟨lo, hlo⟩ : ∃ lo, p % 18446744073709551616 = lo := ⟨_, rfl⟩
          obtain ⟨hi, hhi⟩ : ∃ hi, p / 18446744073709551616 = hi := ⟨_, rfl⟩
          rw [hlo, hhi] at MU
          have hlr : 0 ≤ lo ∧ lo ≤ 18446744073709551615 := by omega
          have hhr : 0 ≤ hi ∧ hi ≤ 18446744073709551615 := by omega
          have HI := Lib.hid inv
          have ex : wr.cell? ⟨B, 1, none⟩ = some (.int .u64 a1) := inv.x.at_ 1 rfl
          clear inv
          go_upto_region 9 with (go_at_call 47; refine (MU.out _).mono ?_; rintro e wm ⟨rfl, hbm⟩)
          have i2 := HI.out.stay hbm
          have e2 : wm.cell? ⟨B + 1 + 1, 2, none⟩ = some (.int .u64 o2) := i2.o.at_ 2 rfl
          have f2 := i2.o.free 2
          have e3 : wm.cell? ⟨B + 1 + 1, 3, none⟩ = some (.int .u64 o3) := i2.o.at_ 3 rfl
          have f3 := i2.o.free 3
          have w0 := i2.w0
          have w1 := i2.w1
          have w2 := i2.w2
          have w3 := i2.w3
          unfold IsW1 at w0 w1 w2 w3
          have hA1 := add64_run o2 lo 0 w2.1 hlr.1 (Int.le_refl _) (by decide)
          obtain ⟨n2, hn2⟩ : ∃ n, (o2 + lo + 0) % 18446744073709551616 = n := ⟨_, rfl⟩
          obtain ⟨c1, hc1⟩ : ∃ c, (o2 + lo + 0) / 18446744073709551616 = c := ⟨_, rfl⟩
          rw [hn2, hc1] at hA1
          have hcr : 0 ≤ c1 ∧ c1 ≤ 1 := by omega
          have hA2 := add64_run o3 hi c1 w3.1 hhr.1 hcr.1 hcr.2
          obtain ⟨n3, hn3⟩ : ∃ n, (o3 + hi + c1) % 18446744073709551616 = n := ⟨_, rfl⟩
          obtain ⟨c2, hc2⟩ : ∃ c, (o3 + hi + c1) / 18446744073709551616 = c := ⟨_, rfl⟩
          rw [hn3, hc2] at hA2
          have TS := t_j2 HI.out.w0 HI.out.w1 HI.out.w2 HI.out.w3 hpr HI.out.v
          rw [hlo, hhi] at TS
          obtain ⟨m2, m3, em2, em3, wm2, wm3, hv⟩ := TS
          rw [hn2] at em2
          rw [hc1, hn3] at em3
          subst em2 em3
          have i3 : TWInv w ((wm.setCell ⟨B + 1 + 1, 2, none⟩ (.int .u64 m2)).setCell ⟨B + 1 + 1, 3, none⟩ (.int .u64 m3)) B a0 a1 a2 o0 o1 m2 m3 (tS p00 p01 p10 p11 p20 p21 4) := by
            refine ⟨((i2.x.other (a := ⟨B + 1 + 1, 2, none⟩) (by show B ≠ B + 1 + 1; omega) (.int .u64 m2)).other (a := ⟨B + 1 + 1, 3, none⟩) (by show B ≠ B + 1 + 1; omega) (.int .u64 m3)), ((i2.z.other (a := ⟨B + 1 + 1, 2, none⟩) (by show B + 1 ≠ B + 1 + 1; omega) (.int .u64 m2)).other (a := ⟨B + 1 + 1, 3, none⟩) (by show B + 1 ≠ B + 1 + 1; omega) (.int .u64 m3)), ((i2.o.set 2 (.int .u64 m2)).set 3 (.int .u64 m3)), HI.out.w0, HI.out.w1, wm2, wm3, ?_, ((i2.b.setCell (p := ⟨B + 1 + 1, 2, none⟩) (by show B ≤ B + 1 + 1; omega) (.int .u64 m2)).setCell (p := ⟨B + 1 + 1, 3, none⟩) (by show B ≤ B + 1 + 1; omega) (.int .u64 m3))⟩
            rw [← hp, HP.out.p11] at hv
            exact hv
          have HI3 := Lib.hid i3
          clear i3 i2 hv hn2 hc1 hp hlo hhi hn3 hc2
          go_wp2_with fail
          exact ⟨⟨2, _, _, _, _, by decide, rfl, HI3.out, fun h => by cases h⟩, by decide⟩
        | 2, _ =>
          have HI2 := Lib.hid inv
          clear inv
          go_wp2_with fail
          exact ⟨⟨2, _, _, _, _, by decide, rfl, HI2.out, fun h => by cases h⟩, by decide⟩
    | 2, _ =>
      have HI0 := Lib.hid inv
      have H20 := Lib.hid h20
      clear inv h20
      go_upto_region 6 with (refine wp_load_f rfl 47 (.tmp 17) rfl rfl (kr _ (by assumption)) ?_)
      go_loopw [19] (fun x wr => ∃ (k : Nat) (o0 o1 o2 o3 : Int), k ≤ 2 ∧ x = .int .i64 k ∧ TWInv w wr B a0 a1 a2 o0 o1 o2 o3 (tS p00 p01 p10 p11 p20 p21 (4 + k)) ∧ (4 + k = 0 → o2 = 0)) (fun x _ => 2 - (intOf x).toNat)
      case atStart => exact ⟨0, o0, o1, o2, o3, by decide, rfl, HI0.out, fun h => by omega⟩
      case round =>
        obtain ⟨k, o0, o1, o2, o3, hk2, rfl, inv, h20⟩ := hrel
        match k, hk2 with
        | 0, _ =>
          clear h20
          obtain ⟨p, hp⟩ : ∃ p, a2 * r0 = p := ⟨_, rfl⟩
          have hpr := mul_range HW.out.2.2 HR.out.1
          rw [hp] at hpr
          have MU := Lib.hid (fun w => mul64_any w a2 r0 HW.out.2.2 HR.out.1)
          rw [hp] at MU
          obtain ⟨lo, hlo⟩ : ∃ lo, p % 18446744073709551616 = lo := ⟨_, rfl⟩
          obtain ⟨hi, hhi⟩ : ∃ hi, p / 18446744073709551616 = hi := ⟨_, rfl⟩
          rw [hlo, hhi] at MU
          have hlr : 0 ≤ lo ∧ lo ≤ 18446744073709551615 := by omega
          have hhr : 0 ≤ hi ∧ hi ≤ 18446744073709551615 := by omega
          have HI := Lib.hid inv
          have ex : wr.cell? ⟨B, 2, none⟩ = some (.int .u64 a2) := inv.x.at_ 2 rfl
          clear inv
          go_upto_region 9 with (go_at_call 47; refine (MU.out _).mono ?_; rintro e wm ⟨rfl, hbm⟩)
          have i2 := HI.out.stay hbm
          have e2 : wm.cell? ⟨B + 1 + 1, 2, none⟩ = some (.int .u64 o2) := i2.o.at_ 2 rfl
          have f2 := i2.o.free 2
          have e3 : wm.cell? ⟨B + 1 + 1, 3, none⟩ = some (.int .u64 o3) := i2.o.at_ 3 rfl
          have f3 := i2.o.free 3
          have w0 := i2.w0
          have w1 := i2.w1
          have w2 := i2.w2
          have w3 := i2.w3
          unfold IsW1 at w0 w1 w2 w3
          have hA1 := add64_run o2 lo 0 w2.1 hlr.1 (Int.le_refl _) (by decide)
          obtain ⟨n2, hn2⟩ : ∃ n, (o2 + lo + 0) % 18446744073709551616 = n := ⟨_, rfl⟩
          obtain ⟨c1, hc1⟩ : ∃ c, (o2 + lo + 0) / 18446744073709551616 = c := ⟨_, rfl⟩
          rw [hn2, hc1] at hA1
          have hcr : 0 ≤ c1 ∧ c1 ≤ 1 := by omega
          have hA2 := add64_run o3 hi c1 w3.1 hhr.1 hcr.1 hcr.2
          obtain ⟨n3, hn3⟩ : ∃ n, (o3 + hi + c1) % 18446744073709551616 = n := ⟨_, rfl⟩
          obtain ⟨c2, hc2⟩ : ∃ c, (o3 + hi + c1) / 18446744073709551616 = c := ⟨_, rfl⟩
          rw [hn3, hc2] at hA2
          have TS := t_j2 HI.out.w0 HI.out.w1 HI.out.w2 HI.out.w3 hpr HI.out.v
          rw [hlo, hhi] at TS
          obtain ⟨m2, m3, em2, em3, wm2, wm3, hv⟩ := TS
          rw [hn2] at em2
          rw [hc1, hn3] at em3
          subst em2 em3
          have i3 : TWInv w ((wm.setCell ⟨B + 1 + 1, 2, none⟩ (.int .u64 m2)).setCell ⟨B + 1 + 1, 3, none⟩ (.int .u64 m3)) B a0 a1 a2 o0 o1 m2 m3 (tS p00 p01 p10 p11 p20 p21 5) := by
            refine ⟨((i2.x.other (a := ⟨B + 1 + 1, 2, none⟩) (by show B ≠ B + 1 + 1; omega) (.int .u64 m2)).other (a := ⟨B + 1 + 1, 3, none⟩) (by show B ≠ B + 1 + 1; omega) (.int .u64 m3)), ((i2.z.other (a := ⟨B + 1 + 1, 2, none⟩) (by show B + 1 ≠ B + 1 + 1; omega) (.int .u64 m2)).other (a := ⟨B + 1 + 1, 3, none⟩) (by show B + 1 ≠ B + 1 + 1; omega) (.int .u64 m3)), ((i2.o.set 2 (.int .u64 m2)).set 3 (.int .u64 m3)), HI.out.w0, HI.out.w1, wm2, wm3, ?_, ((i2.b.setCell (p := ⟨B + 1 + 1, 2, none⟩) (by show B ≤ B + 1 + 1; omega) (.int .u64 m2)).setCell (p := ⟨B + 1 + 1, 3, none⟩) (by show B ≤ B + 1 + 1; omega) (.int .u64 m3))⟩
            rw [← hp, HP.out.p20] at hv
            exact hv
          have HI3 := Lib.hid i3
          clear i3 i2 hv hn2 hc1 hp hlo hhi hn3 hc2
          go_wp2_with fail
          exact ⟨⟨1, _, _, _, _, by decide, rfl, HI3.out, fun h => by cases h⟩, by decide⟩
        | 1, _ =>
          clear h20
          obtain ⟨p, hp⟩ : ∃ p, a2 * r1 = p := ⟨_, rfl⟩
          have hpr := mul_range HW.out.2.2 HR.out.2
          rw [hp] at hpr
          have MU := Lib.hid (fun w => mul64_any w a2 r1 HW.out.2.2 HR.out.2)
          rw [hp] at MU
          obtain ⟨lo, hlo⟩ : ∃ lo, p % 18446744073709551616 = lo := ⟨_, rfl⟩
          obtain ⟨hi, hhi⟩ : ∃ hi, p / 18446744073709551616 = hi := ⟨_, rfl⟩
          rw [hlo, hhi] at MU
          have hlr : 0 ≤ lo ∧ lo ≤ 18446744073709551615 := by omega
          have hhr : 0 ≤ hi ∧ hi ≤ 18446744073709551615 := by omega
          have HI := Lib.hid inv
          have ex : wr.cell? ⟨B, 2, none⟩ = some (.int .u64 a2) := inv.x.at_ 2 rfl
          clear inv
          go_upto_region 9 with (go_at_call 47; refine (MU.out _).mono ?_; rintro e wm ⟨rfl, hbm⟩)
          have i2 := HI.out.stay hbm
          have e3 : wm.cell? ⟨B + 1 + 1, 3, none⟩ = some (.int .u64 o3) := i2.o.at_ 3 rfl
          have f3 := i2.o.free 3
          have w0 := i2.w0
          have w1 := i2.w1
          have w2 := i2.w2
          have w3 := i2.w3
          unfold IsW1 at w0 w1 w2 w3
          have hA1 := add64_run o3 lo 0 w3.1 hlr.1 (Int.le_refl _) (by decide)
          obtain ⟨n3, hn3⟩ : ∃ n, (o3 + lo + 0) % 18446744073709551616 = n := ⟨_, rfl⟩
          obtain ⟨c1, hc1⟩ : ∃ c, (o3 + lo + 0) / 18446744073709551616 = c := ⟨_, rfl⟩
          rw [hn3, hc1] at hA1
          have hcr : 0 ≤ c1 ∧ c1 ≤ 1 := by omega
          have TS := t_j3 HI.out.w0 HI.out.w1 HI.out.w2 HI.out.w3 hpr HI.out.v
          rw [hlo] at TS
          obtain ⟨m3, em3, wm3, hv⟩ := TS
          rw [hn3] at em3
          subst em3
          have i3 : TWInv w (wm.setCell ⟨B + 1 + 1, 3, none⟩ (.int .u64 m3)) B a0 a1 a2 o0 o1 o2 m3 (tS p00 p01 p10 p11 p20 p21 6) := by
            refine ⟨(i2.x.other (a := ⟨B + 1 + 1, 3, none⟩) (by show B ≠ B + 1 + 1; omega) (.int .u64 m3)), (i2.z.other (a := ⟨B + 1 + 1, 3, none⟩) (by show B + 1 ≠ B + 1 + 1; omega) (.int .u64 m3)), (i2.o.set 3 (.int .u64 m3)), HI.out.w0, HI.out.w1, HI.out.w2, wm3, ?_, (i2.b.setCell (p := ⟨B + 1 + 1, 3, none⟩) (by show B ≤ B + 1 + 1; omega) (.int .u64 m3))⟩
            rw [← hp, HP.out.p21] at hv
            exact hv
          have HI3 := Lib.hid i3
          clear i3 i2 hv hn3 hc1 hp hlo hhi
          go_wp2_with fail
          exact ⟨⟨2, _, _, _, _, by decide, rfl, HI3.out, fun h => by cases h⟩, by decide⟩
        | 2, _ =>
          have HI2 := Lib.hid inv
          clear inv
          go_wp2_with fail
          exact ⟨⟨3, _, _, _, _, by decide, rfl, HI2.out, fun h => by cases h⟩, by decide⟩
    | 3, _ =>
      have HIF := Lib.hid inv
      have ho := inv.o
      have hz := inv.z
      clear inv h20
      go_wp2_with (first
        | (refine wp_load_blk rfl 72 (.tmp 5) rfl rfl ho Try.underlying72 rfl (n := 4) (by kernel_rfl) rfl ?_)
        | (refine wp_store_blk rfl 72 (.tmp 4) (.tmp 83) rfl rfl rfl hz (uq_one _) rfl (n := 4) (by kernel_rfl) rfl ?_; intro w' hbx hon))
      refine ret_blk rfl rfl hbx Try.underlying72 rfl (n := 4) (by kernel_rfl) rfl rfl ?_
      refine ⟨o0, o1, o2, o3, rfl, ?_, ?_, by rw [hB]; exact hon.below HIF.out.b (by omega)⟩
      · intro z hz
        have h0 := HIF.out.w0
        have h1 := HIF.out.w1
        have h2 := HIF.out.w2
        have h3 := HIF.out.w3
        unfold IsW1 at *
        simp at hz
        omega
      · have h0 := HIF.out.w0
        have h1 := HIF.out.w1
        have h2 := HIF.out.w2
        have h3 := HIF.out.w3
        obtain ⟨t, ht⟩ := HIF.out.v
        have hv := prods_val HP.out
        have hs := HSM.out
        rw [show 2 * 3 = 6 from rfl, hv] at ht
        have hnn : 0 ≤ leW [a0, a1, a2] * leW [r0, r1] := by
          obtain ⟨x0, x1, x2⟩ := HW.out
          obtain ⟨y0, y1⟩ := HR.out
          unfold IsW1 at *
          refine Int.mul_nonneg ?_ ?_ <;> simp only [leW] <;> omega
        generalize leW [a0, a1, a2] * leW [r0, r1] = Q at *
        unfold tv w4 IsW1 at *
        simp only [leW]
        omega
end Go.Proofs.Ytmjjnaaiakchhaa

/-
  A part of a block that is written whole.
-/
namespace Go.Proofs.Ytmjjnaaiakchhaa
open Go.RowKit

def splice (cs : List Value) (off : Nat) (ys : List Value) : List Value := cs.take off ++ ys ++ cs.drop (off + ys.length)
theorem run_store_sub {P : Program} {w : World} (ty : TypeId) {g off : Nat} {t : TypeId} {cs ys : List Value} (hg : Blk w g cs t) (hone : ∀ v ∈ ys, v.oneCell' = true) (hl : off + ys.length ≤ cs.length)
    {n : Nat} (hi : (P.info? ty).map (·.size) = some n) (hn : ys.length = n) : (Instr.storeAt ty (.pointer (some ⟨g, off, none⟩)) (.agg ys.toArray)).run P w = .ok () (w.setRow g (splice cs off ys).toArray) := by
  obtain ⟨i, hi1, hi2⟩ := Option.map_eq_some_iff.1 hi
  have hst := run_storeCells_at (P := P) g off t ys 0 cs.toArray w hg (by simpa using hl) hone
  simp only [Nat.add_zero] at hst
  simp [Instr.storeAt, Instr.sureAddr, storeVar, sizeOf, typeInfo, hi1, hi2, Value.cells, hn, hst, splice]
theorem wp_store_sub {P : Program} {ops : Array Oper} {rest : List Oper} {o : Oper} {a : Act} {w : World} {Q : Exit → Act → World → Prop} (hgd : o.guard = none) (ty : TypeId) (x y : Operand) (ho : o.op = .store ty x y)
    {g off : Nat} (hx : a.eval x = .pointer (some ⟨g, off, none⟩)) {t : TypeId} {cs ys : List Value} (hy : a.eval y = .agg ys.toArray) (hg : Blk w g cs t) (hone : ∀ v ∈ ys, v.oneCell' = true) (hl : off + ys.length ≤ cs.length)
    {n : Nat} (hi : (P.info? ty).map (·.size) = some n) (hn : ys.length = n)
    (h : ∀ w', Blk w' g (splice cs off ys) t → Only g w w' → wpList P ops Q rest (a.put o.dst undef) w') : wpList P ops Q (o :: rest) a w :=
  wpList_plain hgd fun K hK => by
    show o.upon P a K Q ((execOp a.eval o).run P w)
    simp only [execOp, ho, Sem.run_bind, hx, hy, run_store_sub ty hg hone hl hi hn, Result.andThen_ok, Sem.run_pure, Oper.upon]
    exact hK _ _ (h _ (setRow_heap w g cs.toArray (splice cs off ys).toArray t (0, 0) hg) (Only.row w g _))
end Go.Proofs.Ytmjjnaaiakchhaa

/-
  poly.number; a step of a Mac.
-/
namespace Go.Proofs.Ytmjjnaaiakchhaa
open Go.RowKit

def foldV (N : Int) : Int := N % 1361129467683753853853498429727072845824 + 5 * (N / 1361129467683753853853498429727072845824)
theorem foldw2_any (w : World) (o0 o1 o2 o3 : Int) (ho : IsW [o0, o1, o2, o3]) : Calls Try.prog 38 #[.agg (uq [o0, o1, o2, o3]).toArray] w fun e w' => ∃ f : List Int, e = .returned (.agg (uq f).toArray) ∧ f.length = 3 ∧ IsW f ∧ leW f = foldV (leW [o0, o1, o2, o3]) ∧ Below w.heap.size w w' := by
  have h0 := ho o0 (by simp)
  have h1 := ho o1 (by simp)
  have h2 := ho o2 (by simp)
  have h3 := ho o3 (by simp)
  refine (foldw_any w o0 o1 o2 o3 h0 h1 h2 h3).mono ?_
  rintro e w' ⟨rfl, hb⟩
  have wl : IsW [o0, o1, o2 % 4] := by intro z hz; simp at hz; omega
  have wh : IsW [o2 / 4 + o3 % 4 * 4611686018427387904, o3 / 4, 0] := by intro z hz; simp at hz; omega
  have wf : IsW [o2 - o2 % 4, o3, 0] := by intro z hz; simp at hz; omega
  refine ⟨_, rfl, by rw [addW_len, addW_len]; rfl, adK_isW (adK_isW wl 3) 3, ?_, hb⟩
  have e1 : leW [o0, o1, o2 % 4] + leW [o2 / 4 + o3 % 4 * 4611686018427387904, o3 / 4, 0] < 6277101735386680763835789423207666416102355444464034512896 := by simp only [leW]; omega
  have v1 := addW_val rfl rfl wl wh e1
  have e2 : leW (addW [o0, o1, o2 % 4] [o2 / 4 + o3 % 4 * 4611686018427387904, o3 / 4, 0]) + leW [o2 - o2 % 4, o3, 0] < 6277101735386680763835789423207666416102355444464034512896 := by rw [v1]; simp only [leW]; omega
  have v2 := addW_val (a := addW [o0, o1, o2 % 4] [o2 / 4 + o3 % 4 * 4611686018427387904, o3 / 4, 0]) (b := [o2 - o2 % 4, o3, 0]) (by rw [addW_len]; rfl) rfl (adK_isW wl 3) wf e2
  rw [v2, v1]
  unfold foldV
  simp only [leW]
  have q : (o0 + 18446744073709551616 * (o1 + 18446744073709551616 * (o2 + 18446744073709551616 * (o3 + 18446744073709551616 * 0)))) / 1361129467683753853853498429727072845824 = (o2 + 18446744073709551616 * o3) / 4 := by omega
  rw [q]
  omega

theorem leN_add (xs : List Int) (a n m : Nat) : leN xs a (n + m) = leN xs a n + 256 ^ n * leN xs (a + n) m := by
  induction m with
  | zero => simp [leN]
  | succ m ih =>
    rw [show n + (m + 1) = (n + m) + 1 by omega, leN, leN, ih, Int.mul_add, Int.pow_add, Nat.add_assoc]
    rw [Int.add_assoc, Int.mul_left_comm (256 ^ n)]
theorem words_of {ys : List Int} (hl : ys.length ≤ 24) : leW [leN ys (0 : Int).toNat 8, leN ys (8 : Int).toNat 8, leN ys (16 : Int).toNat 8] = leV ys := by
  have h1 := leN_add ys 0 8 16
  have h2 := leN_add ys 8 8 8
  have h3 := leN_eq ys 0 24
  rw [List.drop_zero, List.take_of_length_le hl, leV_append, leV_zeros, Int.mul_zero, Int.add_zero] at h3
  simp only [Nat.reduceAdd, Nat.zero_add] at h1 h2
  rw [h2] at h1
  rw [h1] at h3
  rw [← h3]
  have e8 : (256 : Int) ^ 8 = 18446744073709551616 := by decide
  rw [e8]
  show leN ys 0 8 + 18446744073709551616 * (leN ys 8 8 + 18446744073709551616 * (leN ys 16 8 + 18446744073709551616 * 0)) = _
  rw [Int.mul_zero, Int.add_zero]

set_option maxRecDepth 100000 in
set_option maxHeartbeats 2000000 in
theorem numberw_any (w : World) (v : Value) (xs : List Int) (hr : Rd w v (bs xs)) (hx : IsB xs) (hl : xs.length ≤ 16) : Calls Try.prog 40 #[v] w fun e w' => ∃ n0 n1 n2, e = .returned (.agg (uq [n0, n1, n2]).toArray) ∧ IsW [n0, n1, n2] ∧ leW [n0, n1, n2] = leV (xs ++ [1]) ∧ Below w.heap.size w w' := by
  have HR := Lib.hid hr
  obtain ⟨B, hB⟩ : ∃ B, w.heap.size = B := ⟨_, rfl⟩
  have hx1 : IsB (xs ++ [1]) := fun z hz => by
    rcases List.mem_append.1 hz with hz | hz
    · exact hx z hz
    · obtain rfl := List.mem_singleton.1 hz; exact ⟨by decide, by decide⟩
  clear hr
  go_enter Try.func40, Try.ntmps40
  go_upto_region 1 with fail
  change Code.wp _ _ _ _ (w.alloc (.cells (uq [0, 0, 0]).toArray 49))
  have b0 : Blk (w.alloc (.cells (uq [0, 0, 0]).toArray 49)) B (uq [0, 0, 0]) 49 := Blk.mk_ _ hB.symm rfl
  have bb : Below B w (w.alloc (.cells (uq [0, 0, 0]).toArray 49)) := bw_al (Below.refl _ _) (by omega) _
  generalize w.alloc (.cells (uq [0, 0, 0]).toArray 49) = w1 at *
  have hBw := b0.lt
  have B0 := Lib.hid b0
  have HR1 := Lib.hid (HR.out.stay bb (by omega))
  clear b0
  go_upto_region 2 with (first
    | (at_builtin; refine wp_app (.const (.slice none 0 0)) (.tmp 4) 33 rfl rfl 5 (.int .u8 0) 1 Try.underlying33 info5 rfl w1.heap.size rfl (World.ownsRow_nil _ _ _ _) rfl HR1.out (bs_one _) (by decide) (by rw [bs_len]; omega) (Nat.le_refl _) ?_; intro v2 w2 hown2 _ hb2)
    | (at_builtin; refine wp_app (.tmp 5) (.tmp 6) 33 rfl rfl 5 (.int .u8 0) 1 Try.underlying33 info5 rfl w1.heap.size rfl (hown2.alloc _) rfl (Rd.one _ _ _) (by intro y hy; simp at hy; subst hy; rfl) (by decide) (by rw [bs_len]; simp; omega) (by have := hb2.size; simp; omega) ?_; intro v3 w3 hown3 _ hb3))
  have bw3 : Below w1.heap.size w1 w3 := Below.trans (bw_al hb2 hb2.size _) hb3
  have hr3 : Rd w3 v3 (bs (xs ++ [1])) := by
    have := Rd.of_own hown3
    simpa [bs] using this
  have L0 := Lib.hid (le64_any v3 (xs ++ [1]) 0 w3 hr3 hx1 (by decide) (by decide))
  have L1 := Lib.hid (le64_any v3 (xs ++ [1]) 8 w3 hr3 hx1 (by decide) (by decide))
  have L2 := Lib.hid (le64_any v3 (xs ++ [1]) 16 w3 hr3 hx1 (by decide) (by decide))
  obtain ⟨n0, hn0⟩ : ∃ n, leN (xs ++ [1]) (0 : Int).toNat 8 = n := ⟨_, rfl⟩
  obtain ⟨n1, hn1⟩ : ∃ n, leN (xs ++ [1]) (8 : Int).toNat 8 = n := ⟨_, rfl⟩
  obtain ⟨n2, hn2⟩ : ∃ n, leN (xs ++ [1]) (16 : Int).toNat 8 = n := ⟨_, rfl⟩
  rw [hn0] at L0
  rw [hn1] at L1
  rw [hn2] at L2
  have r0 := leN_range hx1 (0 : Int).toNat 8
  have r1 := leN_range hx1 (8 : Int).toNat 8
  have r2 := leN_range hx1 (16 : Int).toNat 8
  rw [hn0] at r0
  rw [hn1] at r1
  rw [hn2] at r2
  have e8 : (256 : Int) ^ 8 = 18446744073709551616 := by decide
  rw [e8] at r0 r1 r2
  have hval : leW [n0, n1, n2] = leV (xs ++ [1]) := by
    rw [← hn0, ← hn1, ← hn2]
    exact words_of (by simp; omega)
  have HV := Lib.hid (fun _ : Unit => hval)
  have hw : IsW [n0, n1, n2] := by intro z hz; simp at hz; omega
  have HW := Lib.hid hw
  have BB := Lib.hid (bw_then bb bw3 (by omega))
  have B3 := Lib.hid (B0.out.stay bw3)
  clear hn0 hn1 hn2 hval hw hown2 hown3 hr3 r0 r1 r2 e8
  go_wp2_with (first
    | (go_at_call 24; (first | refine L0.out.mono ?_ | refine L1.out.mono ?_ | refine L2.out.mono ?_); rintro e w4 ⟨rfl, hw4⟩; subst hw4)
    | (refine wp_store_blk rfl 49 (.tmp 2) (.tmp 14) rfl rfl rfl (cs' := uq [n0, n1, n2]) B3.out (uq_one _) rfl (n := 3) (by kernel_rfl) rfl ?_; intro w' hbx hon))
  refine ret_blk rfl rfl hbx Try.underlying49 rfl (n := 3) (by kernel_rfl) rfl rfl ?_
  exact ⟨n0, n1, n2, rfl, HW.out, HV.out (), by rw [hB]; exact hon.below BB.out (Nat.le_refl _)⟩

/-- Where a Mac's sum stands: what it is worth, nearly modulo 2^130 - 5. -/
def AccOk (acc : List Int) (h : Int) : Prop := acc.length = 3 ∧ IsW acc ∧ leW acc < 2722258935367507707706996859454145691648 ∧ leW acc % pr = h
theorem foldV_mod (N : Int) : foldV N % pr = N % pr := by
  have h : N = 1361129467683753853853498429727072845824 * (N / 1361129467683753853853498429727072845824) + N % 1361129467683753853853498429727072845824 := (Int.mul_ediv_add_emod N _).symm
  have e : N - foldV N = pr * (N / 1361129467683753853853498429727072845824) := by
    unfold foldV pr at *
    omega
  exact (Int.emod_eq_emod_iff_emod_sub_eq_zero.2 (Int.emod_eq_zero_of_dvd ⟨_, e⟩)).symm
theorem leW_range3 {a b c : Int} (h : IsW [a, b, c]) : 0 ≤ leW [a, b, c] := by
  have h0 := h a (by simp)
  have h1 := h b (by simp)
  have h2 := h c (by simp)
  simp only [leW]
  omega

set_option maxRecDepth 100000 in
set_option maxHeartbeats 4000000 in
theorem step_any (w : World) (g : Nat) (held : Value) (r0 r1 s0 s1 s2 a0 a1 a2 : Int) (on : Bool) (h : Int) (v : Value) (xs : List Int) (hm : Blk w g (macC held r0 r1 s0 s1 s2 a0 a1 a2 on) 51) (hr : IsW1 r0 ∧ IsW1 r1) (hR : leW [r0, r1] < 21267647932558653966460912964485513216)
    (ha : AccOk [a0, a1, a2] h) (hd : Rd w v (bs xs)) (hx : IsB xs) (hl : xs.length ≤ 16) :
    Calls Try.prog 26 #[.pointer (some ⟨g, 0, none⟩), v] w fun e w' => e = .returned (.tuple #[]) ∧ ∃ n0 n1 n2, AccOk [n0, n1, n2] ((h + leV (xs ++ [1])) * leW [r0, r1] % pr) ∧ Blk w' g (macC held r0 r1 s0 s1 s2 n0 n1 n2 on) 51 ∧ Turns (fun b => b = g) w w' := by
  obtain ⟨_, hw, hb, hmod⟩ := ha
  have HM := Lib.hid hm
  have HD := Lib.hid hd
  have HX := Lib.hid hx
  have HW := Lib.hid hw
  have HR := Lib.hid hr
  have ka := load_fact hm 49 6 (ys := uq [a0, a1, a2]) rfl Try.underlying49 rfl (n := 3) (by kernel_rfl) rfl
  have hgl := hm.lt
  have hlv : 0 ≤ leV (xs ++ [1]) ∧ leV (xs ++ [1]) < 680564733841876926926749214863536422912 := by
    have h1 := leV_range hx
    have h2 := leV_append xs [1]
    have h5 := Nat.pow_le_pow_right (show 0 < 256 by decide) hl
    have e1 : (256 : Int) ^ xs.length = ((256 ^ xs.length : Nat) : Int) := by rw [Int.natCast_pow]; rfl
    have e2 : (256 ^ 16 : Nat) = 340282366920938463463374607431768211456 := by decide
    rw [e2] at h5
    rw [e1] at h1 h2
    generalize 256 ^ xs.length = q at *
    simp only [leV, Int.mul_zero, Int.add_zero, Int.mul_one] at h2
    omega
  have HH := Lib.hid (fun _ : Unit => (⟨hb, hmod, hR, hlv⟩ : leW [a0, a1, a2] < 2722258935367507707706996859454145691648 ∧ leW [a0, a1, a2] % pr = h ∧ leW [r0, r1] < 21267647932558653966460912964485513216 ∧ 0 ≤ leV (xs ++ [1]) ∧ leV (xs ++ [1]) < 680564733841876926926749214863536422912))
  clear hm hd hx hw hb hmod hR hlv hr
  go_enter Try.func26, Try.ntmps26
  have hbl0 : Below w.heap.size w w.drew := bw_d1 (Below.refl _ _)
  refine region_plan ⟨[0, 0, 0, 4, 12, 28, 0, 64, 252, 510, 1022, 2047, 4095, 8191], [7, 8, 9, 10, 13], [0, 0, 0, 0, 0, 0, 0, 0, 1, 2, 3, 4, 4, 4]⟩
    [⟨[0, 1, 2, 3, 4, 5, 6], [3, 4, 5], some 7⟩, ⟨[], [3, 4, 5], some 8⟩, ⟨[], [], some 9⟩, ⟨[], [], some 10⟩, ⟨[11, 12], [11, 12], some 13⟩, ⟨[], [], none⟩] 17 (by kernel_rfl) (by kernel_rfl) (by kernel_rfl) (by kernel_rfl) rfl ?_
  simp only [SeqGo, opsAt_cons, opsAt_nil, List.getElem?_cons, Option.toList_some, List.singleton_append, ↓reduceIte, Nat.reduceEqDiff, Nat.reduceSub]
  go_wp2_with (refine wp_load_f rfl 49 (.tmp 8) rfl rfl (ka _ (by assumption)) ?_)
  refine ⟨by
    simp only [Sames]
    refine ⟨?_, ?_, ?_, trivial⟩
    all_goals first
      | exact same_load rfl 49 (.tmp 8) rfl rfl (ka _ (by assumption)) rfl
      | (simp only [Same]; go_simp), ?_⟩
  go_wp2_with (go_at_call 40; refine (numberw_any _ v xs (HD.out.stay hbl0 (Nat.le_refl _)) HX.out hl).mono ?_; rintro e w1 ⟨n0, n1, n2, rfl, hn1, hn2, hb1⟩; have hbl1 := bw_then hbl0 hb1 hbl0.size)
  refine ⟨by
    simp only [Sames]
    refine ⟨?_, ?_, ?_, trivial⟩
    all_goals first
      | exact same_load rfl 49 (.tmp 8) rfl rfl (ka _ (by assumption)) rfl
      | (simp only [Same]; go_simp), ?_⟩
  have HN1 := Lib.hid hn1
  have HN2 := Lib.hid (fun _ : Unit => hn2)
  obtain ⟨c0, c1, c2, hc⟩ : ∃ c0 c1 c2, addW [a0, a1, a2] [n0, n1, n2] = [c0, c1, c2] := ⟨_, _, _, rfl⟩
  have AD := Lib.hid (fun w => add_any w [a0, a1, a2] [n0, n1, n2] rfl rfl HW.out hn1)
  rw [hc] at AD
  have hcw : IsW [c0, c1, c2] := by rw [← hc]; exact adK_isW HW.out 3
  have hz := leW_range3 HW.out
  have hn := leW_range3 hn1
  have hcv : leW [c0, c1, c2] = leW [a0, a1, a2] + leV (xs ++ [1]) := by
    rw [← hc, ← hn2]
    exact addW_val rfl rfl HW.out hn1 (by rw [hn2]; have := HH.out (); omega)
  have hR0 : 0 ≤ leW [r0, r1] := by
    obtain ⟨x0, x1⟩ := HR.out
    unfold IsW1 at *
    simp only [leW]
    omega
  have hprod : leW [c0, c1, c2] * leW [r0, r1] < w4 := by
    have h1 : leW [c0, c1, c2] * leW [r0, r1] ≤ 5444517870735015415413993718908291383295 * leW [r0, r1] := Int.mul_le_mul_of_nonneg_right (by rw [hcv]; have := HH.out (); omega) hR0
    have h2 := (HH.out ()).2.2.1
    unfold w4
    omega
  have HCV := Lib.hid (fun _ : Unit => hcv)
  have HCW := Lib.hid hcw
  have HPR := Lib.hid (fun _ : Unit => hprod)
  clear hn1 hn2 hc hcw hz hn hcv hR0 hprod
  go_wp2_with (go_at_call 28; refine (AD.out _).mono ?_; rintro e w2 ⟨rfl, hb2⟩; have hbl2 := bw_then hbl1 hb2 hbl1.size)
  refine ⟨trivial, ?_⟩
  have TI := Lib.hid (timesw_any w2 g held r0 r1 s0 s1 s2 a0 a1 a2 on c0 c1 c2 (HM.out.stay hbl2) HR.out ⟨HCW.out c0 (by simp), HCW.out c1 (by simp), HCW.out c2 (by simp)⟩ (HPR.out ()))
  go_wp2_with (go_at_call 39; refine TI.out.mono ?_; rintro e w3 ⟨o0, o1, o2, o3, rfl, ho1, ho2, hb3⟩; have hbl3 := bw_then hbl2 hb3 hbl2.size)
  refine ⟨trivial, ?_⟩
  have FO := Lib.hid (foldw2_any w3 o0 o1 o2 o3 ho1)
  have HO2 := Lib.hid (fun _ : Unit => ho2)
  have hov : 0 ≤ leW [o0, o1, o2, o3] ∧ leW [o0, o1, o2, o3] < w4 := by
    have q0 := ho1 o0 (by simp)
    have q1 := ho1 o1 (by simp)
    have q2 := ho1 o2 (by simp)
    have q3 := ho1 o3 (by simp)
    unfold w4
    simp only [leW]
    omega
  have HOV := Lib.hid (fun _ : Unit => hov)
  clear ho1 ho2 hov
  go_wp2_with (go_at_call 38; refine FO.out.mono ?_; rintro e w44 ⟨f, rfl, hf1, hf2, hf3, hb4⟩; have hbl4 := bw_then hbl3 hb4 hbl3.size)
  refine ⟨by (simp only [Sames, Same]; go_simp), ?_⟩
  obtain ⟨f0, f1, f2, rfl⟩ : ∃ a b c, f = [a, b, c] := match f, hf1 with | [a, b, c], _ => ⟨a, b, c, rfl⟩
  have hM4 := HM.out.stay hbl4
  have HM4 := Lib.hid hM4
  have HF := Lib.hid (fun _ : Unit => (⟨hf2, hf3⟩ : IsW [f0, f1, f2] ∧ leW [f0, f1, f2] = foldV (leW [o0, o1, o2, o3])))
  clear hM4 hf1 hf2 hf3
  go_wp2_with (refine wp_store_sub rfl 49 (.tmp 16) (.tmp 14) rfl rfl (ys := uq [f0, f1, f2]) rfl HM4.out (uq_one _) (by show 6 + 3 ≤ 10; decide) (n := 3) (by kernel_rfl) rfl ?_; intro w5 hbx hon)
  refine ⟨trivial, ?_⟩
  go_wp2_with fail
  go_end0
  have ht : Turns (fun b => b = g) w w5 := (Turns.of_below hbl4).trans (Turns.of_only hon rfl)
  obtain ⟨hf2, hf3⟩ := HF.out ()
  refine ⟨rfl, f0, f1, f2, ⟨rfl, hf2, ?_, ?_⟩, hbx, ht⟩
  · have hov := HOV.out ()
    rw [hf3]
    unfold foldV w4 at *
    omega
  · have hh := HH.out ()
    rw [hf3, foldV_mod, HO2.out (), HCV.out (), ← hh.2.1, Int.mul_emod, ← Int.emod_add_emod (leW [a0, a1, a2]) pr, ← Int.mul_emod]
end Go.Proofs.Ytmjjnaaiakchhaa
