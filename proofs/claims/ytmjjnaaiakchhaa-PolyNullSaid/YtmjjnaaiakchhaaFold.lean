/-
  poly.fold.
-/
import Derived.Test.YtmjjnaaiakchhaaBig
import Derived.Laws.BitsAllLaws
namespace Go.Proofs.Ytmjjnaaiakchhaa
open Go.RowKit

theorem w_and3 {x : Int} (h : 0 ≤ x ∧ x ≤ 18446744073709551615) : bits .and .u64 x 3 = x % 4 := by
  obtain ⟨X, rfl⟩ := Int.eq_ofNat_of_zero_le h.1
  have := u64_and_nat X 3 (by omega) (by decide)
  rw [show ((3 : Nat) : Int) = 3 from rfl] at this
  rw [this, show (3 : Nat) = 2 ^ 2 - 1 from rfl, Nat.and_two_pow_sub_one_eq_mod]
  omega
theorem w_andNot3 {x : Int} (h : 0 ≤ x ∧ x ≤ 18446744073709551615) : bits .andNot .u64 x 3 = x - x % 4 := by
  obtain ⟨X, rfl⟩ := Int.eq_ofNat_of_zero_le h.1
  have h1 := u64_andNot_nat X 3 (by omega) (by decide)
  rw [show ((3 : Nat) : Int) = 3 from rfl] at h1
  rw [h1, show 18446744073709551615 - 3 = 18446744073709551612 from rfl]
  have e1 : (X &&& 18446744073709551612) % 2 ^ 2 = 0 := by
    rw [Nat.and_mod_two_pow, show 18446744073709551612 % 2 ^ 2 = 0 from rfl, Nat.and_zero]
  have e2 : (X &&& 18446744073709551612) / 2 ^ 2 = X / 2 ^ 2 := by
    rw [Nat.and_div_two_pow, show 18446744073709551612 / 2 ^ 2 = 2 ^ 62 - 1 from rfl, Nat.and_two_pow_sub_one_eq_mod]
    exact Nat.mod_eq_of_lt (by omega)
  have e3 := Nat.div_add_mod (X &&& 18446744073709551612) (2 ^ 2)
  rw [e1, e2] at e3
  have : (2 : Nat) ^ 2 = 4 := rfl
  rw [this] at e3
  omega
theorem w_or62 {x y : Int} (hx : 0 ≤ x ∧ x ≤ 4611686018427387903) (hy : 0 ≤ y ∧ y ≤ 3) : bits .or .u64 x (y * 4611686018427387904) = x + y * 4611686018427387904 := by
  obtain ⟨X, rfl⟩ := Int.eq_ofNat_of_zero_le hx.1
  obtain ⟨Y, rfl⟩ := Int.eq_ofNat_of_zero_le hy.1
  have h := u64_or_nat X (Y * 4611686018427387904) (by omega) (by omega)
  have e : ((Y * 4611686018427387904 : Nat) : Int) = (Y : Int) * 4611686018427387904 := by omega
  rw [e] at h
  have hp : (4611686018427387904 : Nat) = 2 ^ 62 := by decide
  have hj : (Y * 4611686018427387904) ||| X = Y * 4611686018427387904 + X := by
    rw [hp]
    exact nat_join 62 _ X (Nat.mul_mod_left _ _) (by rw [← hp]; omega)
  have hj2 : X ||| (Y * 4611686018427387904) = Y * 4611686018427387904 + X := (Nat.or_comm _ _).trans hj
  refine h.trans ?_
  rw [hj2, Int.natCast_add, e, Int.add_comm]

set_option maxRecDepth 100000 in
set_option maxHeartbeats 4000000 in
theorem foldw_any (w : World) (p0 p1 p2 p3 : Int) (h0 : 0 ≤ p0 ∧ p0 ≤ 18446744073709551615) (h1 : 0 ≤ p1 ∧ p1 ≤ 18446744073709551615) (h2 : 0 ≤ p2 ∧ p2 ≤ 18446744073709551615) (h3 : 0 ≤ p3 ∧ p3 ≤ 18446744073709551615) :
    Calls Try.prog 38 #[.agg (uq [p0, p1, p2, p3]).toArray] w fun e w' => e = .returned (.agg (uq (addW (addW [p0, p1, p2 % 4] [p2 / 4 + p3 % 4 * 4611686018427387904, p3 / 4, 0]) [p2 - p2 % 4, p3, 0])).toArray) ∧ Below w.heap.size w w' := by
  obtain ⟨B, hB⟩ : ∃ B, w.heap.size = B := ⟨_, rfl⟩
  have a1 := w_and3 h2
  have a2 := w_andNot3 h2
  have a3 := w_or62 (x := p2 / 4) (y := p3 % 4) (by omega) (by omega)
  go_enter Try.func38, Try.ntmps38
  go_upto_region 1 with fail
  have b0 : Blk (w.alloc (.cells (uq [p0, p1, p2, p3]).toArray 72)) B (uq [p0, p1, p2, p3]) 72 := Blk.mk_ _ hB.symm rfl
  have hw1 : ∀ W : World, B < W.heap.size → Blk W B (uq [p0, p1, p2, p3]) 72 → ∀ W', Below W.heap.size W W' → W'.cell? ⟨B, 0, none⟩ = some (.int .u64 p0) ∧ W'.cell? ⟨B, 1, none⟩ = some (.int .u64 p1) ∧ W'.cell? ⟨B, 2, none⟩ = some (.int .u64 p2) ∧ W'.cell? ⟨B, 3, none⟩ = some (.int .u64 p3) := fun W _ hb W' h =>
    ⟨(hb.stay h).at_ 0 rfl, (hb.stay h).at_ 1 rfl, (hb.stay h).at_ 2 rfl, (hb.stay h).at_ 3 rfl⟩
  have bb : Below B w (w.alloc (.cells (uq [p0, p1, p2, p3]).toArray 72)) := bw_al (Below.refl _ _) (by omega) _
  change Code.wp _ _ _ _ ((w.alloc (.cells (uq [p0, p1, p2, p3]).toArray 72)).alloc (.cells (uq [0, 0, 0]).toArray 49))
  have b1 : Blk ((w.alloc (.cells (uq [p0, p1, p2, p3]).toArray 72)).alloc (.cells (uq [0, 0, 0]).toArray 49)) (B + 1) (uq [0, 0, 0]) 49 := Blk.mk_ _ (by simp [hB]) rfl
  have b0' := b0.al (.cells (uq [0, 0, 0]).toArray 49)
  have bb' := bw_al bb (by simp; omega) (.cells (uq [0, 0, 0]).toArray 49)
  generalize ((w.alloc (.cells (uq [p0, p1, p2, p3]).toArray 72)).alloc (.cells (uq [0, 0, 0]).toArray 49)) = w1 at *
  obtain ⟨c0, c1, c2, c3⟩ := hw1 w1 b0'.lt b0' w1 (Below.refl _ _)
  have HW1 := Lib.hid (hw1 w1 b0'.lt b0')
  have B1 := Lib.hid b1
  have BB := Lib.hid bb'
  clear b0 bb hw1 b1 b0' bb'
  have a4 : IntKind.u64.wrap (p3 * 4611686018427387904) = p3 % 4 * 4611686018427387904 := by rw [IntKind.wrap_u64]; omega
  go_upto_region 2 with fail
  have q0 : Blk (w1.alloc (.cells (uq [p0, p1, p2 % 4]).toArray 49)) w1.heap.size (uq [p0, p1, p2 % 4]) 49 := Blk.mk_ _ rfl rfl
  have bw1 : Below w1.heap.size w1 (w1.alloc (.cells (uq [p0, p1, p2 % 4]).toArray 49)) := bw_al (Below.refl _ _) (Nat.le_refl _) _
  change Code.wp _ _ _ _ (w1.alloc (.cells (uq [p0, p1, p2 % 4]).toArray 49))
  obtain ⟨g2, hg2⟩ : ∃ g2, w1.heap.size = g2 := ⟨_, rfl⟩
  rw [hg2] at q0
  simp only [hg2]
  generalize w1.alloc (.cells (uq [p0, p1, p2 % 4]).toArray 49) = w2 at *
  clear c0 c1 c2 c3
  obtain ⟨c0, c1, c2, c3⟩ := HW1.out w2 bw1
  go_upto_region 3 with fail
  obtain ⟨H, hH⟩ : ∃ H, p2 / 4 + p3 % 4 * 4611686018427387904 = H := ⟨_, rfl⟩
  have r0 : Blk (w2.alloc (.cells (uq [H, p3 / 4, 0]).toArray 49)) w2.heap.size (uq [H, p3 / 4, 0]) 49 := Blk.mk_ _ rfl rfl
  have q1 := q0.al (.cells (uq [H, p3 / 4, 0]).toArray 49)
  have bw2 : Below w1.heap.size w1 (w2.alloc (.cells (uq [H, p3 / 4, 0]).toArray 49)) := bw_al bw1 bw1.size _
  simp only [hH]
  change Code.wp _ _ _ _ (w2.alloc (.cells (uq [H, p3 / 4, 0]).toArray 49))
  obtain ⟨g3, hg3⟩ : ∃ g3, w2.heap.size = g3 := ⟨_, rfl⟩
  rw [hg3] at r0
  simp only [hg3]
  generalize w2.alloc (.cells (uq [H, p3 / 4, 0]).toArray 49) = w3 at *
  clear c0 c1 c2 c3 q0
  obtain ⟨c0, c1, c2, c3⟩ := HW1.out w3 bw2
  have HHH := Lib.hid (fun _ : Unit => hH)
  clear a1 a3 a4 hH
  go_upto_region 4 with fail
  have s0 : Blk (w3.alloc (.cells (uq [p2 - p2 % 4, p3, 0]).toArray 49)) w3.heap.size (uq [p2 - p2 % 4, p3, 0]) 49 := Blk.mk_ _ rfl rfl
  have q2 := q1.al (.cells (uq [p2 - p2 % 4, p3, 0]).toArray 49)
  have r2 := r0.al (.cells (uq [p2 - p2 % 4, p3, 0]).toArray 49)
  have bw3 : Below w1.heap.size w1 (w3.alloc (.cells (uq [p2 - p2 % 4, p3, 0]).toArray 49)) := bw_al bw2 bw2.size _
  change Code.wp _ _ _ _ (w3.alloc (.cells (uq [p2 - p2 % 4, p3, 0]).toArray 49))
  obtain ⟨g4, hg4⟩ : ∃ g4, w3.heap.size = g4 := ⟨_, rfl⟩
  rw [hg4] at s0
  simp only [hg4]
  generalize w3.alloc (.cells (uq [p2 - p2 % 4, p3, 0]).toArray 49) = w4 at *
  have kl := load_fact q2 49 0 (ys := uq [p0, p1, p2 % 4]) rfl Try.underlying49 rfl (n := 3) (by kernel_rfl) rfl
  have kh := load_fact r2 49 0 (ys := uq [H, p3 / 4, 0]) rfl Try.underlying49 rfl (n := 3) (by kernel_rfl) rfl
  have kf := load_fact s0 49 0 (ys := uq [p2 - p2 % 4, p3, 0]) rfl Try.underlying49 rfl (n := 3) (by kernel_rfl) rfl
  have b1 := (B1.out.stay bw3)
  have B14 := Lib.hid b1
  have wl : IsW [p0, p1, p2 % 4] := by intro z hz; simp at hz; omega
  have wh : IsW [H, p3 / 4, 0] := by intro z hz; simp at hz; have := HHH.out (); omega
  have wf : IsW [p2 - p2 % 4, p3, 0] := by intro z hz; simp at hz; omega
  have WL := Lib.hid wl
  have WH := Lib.hid wh
  have WF := Lib.hid wf
  have hbl0 : Below w4.heap.size w4 w4.drew := bw_d1 (Below.refl _ _)
  clear q1 q2 r0 r2 s0 b1 wl wh wf c0 c1 c2 c3 bw1 bw2 a2
  refine region_plan ⟨[0, 0, 3, 0, 15, 31], [2, 4, 5], [0, 0, 0, 0, 1, 2]⟩
    [⟨[0, 1, 3], [0, 1, 3], some 2⟩, ⟨[], [3], some 4⟩, ⟨[], [], some 5⟩, ⟨[], [], none⟩] 36 (by kernel_rfl) (by kernel_rfl) (by kernel_rfl) (by kernel_rfl) rfl ?_
  simp only [SeqGo, opsAt_cons, opsAt_nil, List.getElem?_cons, Option.toList_some, List.singleton_append, ↓reduceIte, Nat.reduceEqDiff, Nat.reduceSub]
  go_wp2_with (first
    | (refine wp_load_f rfl 49 (.tmp 3) rfl rfl (kl _ (by assumption)) ?_)
    | (refine wp_load_f rfl 49 (.tmp 4) rfl rfl (kh _ (by assumption)) ?_)
    | (refine wp_load_f rfl 49 (.tmp 5) rfl rfl (kf _ (by assumption)) ?_))
  refine ⟨⟨same_load rfl 49 (.tmp 3) rfl rfl (kl _ (by assumption)) rfl, same_load rfl 49 (.tmp 4) rfl rfl (kh _ (by assumption)) rfl, same_load rfl 49 (.tmp 5) rfl rfl (kf _ (by assumption)) rfl, trivial⟩, ?_⟩
  go_wp2_with (go_at_call 28; refine (add_any _ _ _ rfl rfl WL.out WH.out).mono ?_; rintro e w5 ⟨rfl, hb5⟩; have hbl5 := bw_then hbl0 hb5 hbl0.size)
  refine ⟨⟨same_load rfl 49 (.tmp 5) rfl rfl (kf _ (by assumption)) rfl, trivial⟩, ?_⟩
  have hlen1 : (addW [p0, p1, p2 % 4] [H, p3 / 4, 0]).length = 3 := addW_len _ _
  have hW1 := Lib.hid (adK_isW (b := [H, p3 / 4, 0]) WL.out 3)
  go_wp2_with (go_at_call 28; refine (add_any _ _ _ hlen1 rfl hW1.out WF.out).mono ?_; rintro e w6 ⟨rfl, hb6⟩; have hbl6 := bw_then hbl5 hb6 hbl5.size)
  refine ⟨trivial, ?_⟩
  have hlen2 : (uq (addW (addW [p0, p1, p2 % 4] [H, p3 / 4, 0]) [p2 - p2 % 4, p3, 0])).length = 3 := by rw [uq_len, addW_len, addW_len]; rfl
  go_wp2_with (refine wp_store_blk rfl 49 (.tmp 2) (.tmp 35) rfl rfl rfl (B14.out.stay hbl6) (uq_one _) (by rw [hlen2]; rfl) (n := 3) (by kernel_rfl) hlen2 ?_; intro w' hbx hon)
  refine ⟨trivial, ?_⟩
  go_wp2_with fail
  refine ret_blk rfl rfl hbx Try.underlying49 rfl (n := 3) (by kernel_rfl) hlen2 rfl ?_
  have hs1 := B1.out.lt
  refine ⟨by rw [HHH.out ()], ?_⟩
  rw [hB]
  exact hon.below (bw_then (bw_then BB.out bw3 (by omega)) hbl6 (by have := bw3.size; omega)) (by omega)
end Go.Proofs.Ytmjjnaaiakchhaa
