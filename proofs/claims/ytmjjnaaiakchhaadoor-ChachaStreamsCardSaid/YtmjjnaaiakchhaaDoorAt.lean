/-
  intaglioref02.at: a quarter round in its places.
-/
import Derived.Test.YtmjjnaaiakchhaaDoorFirst
import Derived.Test.YtmjjnaaiakchhaaDoorQuarter
import Derived.Test.YtmjjnaaiakchhaaDoorFlow
import Derived.Deep.DeepCutAuto
namespace Go.Proofs.YtmjjnaaiakchhaaDoor
open Go.RowKit

/-- A quarter round in its places. -/
def qr (s : List Int) (i j k l : Nat) : List Int :=
  let q := quarter (s.getD i 0) (s.getD j 0) (s.getD k 0) (s.getD l 0)
  (((s.set i q.1).set j q.2.1).set k q.2.2.1).set l q.2.2.2
theorem qr_len (s : List Int) (i j k l : Nat) : (qr s i j k l).length = s.length := by simp [qr]

structure AtInv (B g : Nat) (w wr : World) (q s : List Int) : Prop where
  h : B + 1 < g
  g : Blk wr g (us q) 84
  s : Blk wr B (us s) 62
  z : Blk wr (B + 1) (us z16) 62
  b : Below B w wr
theorem AtInv.put {B g : Nat} {w wr : World} {q s : List Int} (h : AtInv B g w wr q s) (i : Nat) (x : Int) : AtInv B g w (wr.setCell ⟨B, i, none⟩ (.int .u32 x)) q (s.set i x) :=
  ⟨h.h, h.g.other (by have := h.h; simp; omega) _, by rw [← us_set]; exact h.s.set i _, h.z.other (by simp) _, bw_set h.b _ _ (Nat.le_refl _) _⟩

set_option maxHeartbeats 1000000 in
theorem at_any (s : List Int) (i j k l : Int) (w : World) (hs : s.length = 16) (hi : 0 ≤ i ∧ i < 16) (hj : 0 ≤ j ∧ j < 16) (hk : 0 ≤ k ∧ k < 16) (hl : 0 ≤ l ∧ l < 16) :
    Calls Tryd.prog 38 #[.agg (us s).toArray, .int .i64 i, .int .i64 j, .int .i64 k, .int .i64 l] w fun e w' => e = .returned (.agg (us (qr s i.toNat j.toNat k.toNat l.toNat)).toArray) ∧ Below w.heap.size w w' := by
  obtain ⟨i, rfl⟩ := Int.eq_ofNat_of_zero_le hi.1
  obtain ⟨j, rfl⟩ := Int.eq_ofNat_of_zero_le hj.1
  obtain ⟨k, rfl⟩ := Int.eq_ofNat_of_zero_le hk.1
  obtain ⟨l, rfl⟩ := Int.eq_ofNat_of_zero_le hl.1
  have HS := Lib.hid hs
  clear hs
  obtain ⟨B, hB⟩ : ∃ B, w.heap.size = B := ⟨_, rfl⟩
  simp only [Int.toNat_natCast]
  go_enter Tryd.func38, Tryd.ntmps38
  go_wp2_with fail
  have b5 : Blk ((w.alloc (.cells (us s).toArray 62)).alloc (.cells (us z16).toArray 62)) B (us s) 62 := (Blk.mk_ _ hB.symm rfl).al _
  have b10 : Blk ((w.alloc (.cells (us s).toArray 62)).alloc (.cells (us z16).toArray 62)) (B + 1) (us z16) 62 := Blk.mk_ _ (by simp [hB]) rfl
  have bb : Below B w ((w.alloc (.cells (us s).toArray 62)).alloc (.cells (us z16).toArray 62)) := bw_al (bw_al (Below.refl _ _) (by omega) _) (by simp; omega) _
  change Code.wp _ _ _ _ ((w.alloc (.cells (us s).toArray 62)).alloc (.cells (us z16).toArray 62))
  generalize ((w.alloc (.cells (us s).toArray 62)).alloc (.cells (us z16).toArray 62)) = w1 at *
  obtain ⟨q, hq⟩ : ∃ q, q = quarter (s.getD i 0) (s.getD j 0) (s.getD k 0) (s.getD l 0) := ⟨_, rfl⟩
  have HQ := Lib.hid hq
  clear hq
  go_cut [11] (fun p wr => ∃ g, p = .pointer (some ⟨g, 0, none⟩) ∧ B + 1 < g ∧ Blk wr g (us [q.1, q.2.1, q.2.2.1, q.2.2.2]) 84 ∧ Blk wr B (us s) 62 ∧ Blk wr (B + 1) (us z16) 62 ∧ Below B w wr)
  case first =>
    rename_i J K' hJ hK'
    refine region_draws
      [(12, .int .i64 i), (13, .pointer (some ⟨B, i, none⟩)), (14, .int .u32 (s.getD i 0)), (15, .int .i64 j), (16, .pointer (some ⟨B, j, none⟩)), (17, .int .u32 (s.getD j 0)),
       (18, .int .i64 k), (19, .pointer (some ⟨B, k, none⟩)), (20, .int .u32 (s.getD k 0)), (21, .int .i64 l), (22, .pointer (some ⟨B, l, none⟩)), (23, .int .u32 (s.getD l 0))] [24, 11]
      (fun L T wr => Blk wr B (us s) 62 ∧ Blk wr (B + 1) (us z16) 62 ∧ Below B w wr ∧ (L 12 = true → T 24 = .agg (us [q.1, q.2.1, q.2.2.1, q.2.2.2]).toArray) ∧
        (L 13 = true → ∃ g, T 11 = .pointer (some ⟨g, 0, none⟩) ∧ B + 1 < g ∧ Blk wr g (if L 14 = true then us [q.1, q.2.1, q.2.2.1, q.2.2.2] else us [0, 0, 0, 0]) 84))
      (fun _ => undef) (by kernel_rfl) (by kernel_rfl) 42 rfl (by kernel_rfl) ⟨b5.d1, b10.d1, bw_d1 bb, (fun h => by simp at h), (fun h => by simp at h)⟩ ?_ ?_
    · simp only [AllFrom]
      refine ⟨?_, ?_, ?_, ?_, ?_, ?_, ?_, ?_, ?_, ?_, ?_, ?_, ?_, ?_, ?_, trivial⟩
      · intro L T w _ _ hG; exact .inl ⟨rfl, rfl⟩
      · intro L T w _ _ hG; refine .inl ⟨rfl, ?_⟩; simp only [execOp]; go_simp
      · intro L T w _ _ hG; have c := hG.1.at_ i (us_get s i (by rw [HS.out]; omega)); refine .inl ⟨rfl, ?_⟩; simp only [execOp]; go_simp
      · intro L T w _ _ hG; exact .inl ⟨rfl, rfl⟩
      · intro L T w _ _ hG; refine .inl ⟨rfl, ?_⟩; simp only [execOp]; go_simp
      · intro L T w _ _ hG; have c := hG.1.at_ j (us_get s j (by rw [HS.out]; omega)); refine .inl ⟨rfl, ?_⟩; simp only [execOp]; go_simp
      · intro L T w _ _ hG; exact .inl ⟨rfl, rfl⟩
      · intro L T w _ _ hG; refine .inl ⟨rfl, ?_⟩; simp only [execOp]; go_simp
      · intro L T w _ _ hG; have c := hG.1.at_ k (us_get s k (by rw [HS.out]; omega)); refine .inl ⟨rfl, ?_⟩; simp only [execOp]; go_simp
      · intro L T w _ _ hG; exact .inl ⟨rfl, rfl⟩
      · intro L T w _ _ hG; refine .inl ⟨rfl, ?_⟩; simp only [execOp]; go_simp
      · intro L T w _ _ hG; have c := hG.1.at_ l (us_get s l (by rw [HS.out]; omega)); refine .inl ⟨rfl, ?_⟩; simp only [execOp]; go_simp
      · intro L T w hL hpre hpost hG
        obtain ⟨h1, h2, h3, h4, h5⟩ := hG
        refine .inl ⟨rfl, fun a K hK => ?_⟩
        simp only [execOp]
        go_simp
        refine (rquarter_any _ _ _ _ _).mono ?_
        rintro e w' ⟨rfl, hb⟩
        refine hK _ _ ⟨h1.stay hb, h2.stay hb, bw_then h3 hb (by have := h3.size; omega), fun _ => by rw [HQ.out]; simp [us], fun h => ?_⟩
        obtain ⟨g, hg1, hg2, hg3⟩ := h5 (by simpa using h)
        exact ⟨g, by simpa using hg1, hg2, by simpa using hg3.stay hb⟩
      · intro L T w hL hpre hpost hG
        obtain ⟨h1, h2, h3, h4, h5⟩ := hG
        have hsz := h3.size
        have h14 : L 14 = false := hpost 14 _ rfl rfl
        refine .inl ⟨rfl, fun a K hK => ?_⟩
        simp only [execOp]
        go_simp
        refine hK _ _ ⟨h1.al _, h2.al _, bw_al h3 (by omega) _, fun h => by simpa using h4 (by simpa using h), fun _ => ⟨w.heap.size, by simp, h2.lt, ?_⟩⟩
        simp only [h14]
        exact Blk.mk_ _ rfl rfl
      · intro L T w hL hpre hpost hG
        obtain ⟨h1, h2, h3, h4, h5⟩ := hG
        obtain ⟨g, hg1, hg2, hg3⟩ := h5 (hpre 13 rfl rfl)
        rw [if_neg (by simp [hL])] at hg3
        refine .inl ⟨rfl, fun a K hK => ?_⟩
        refine upon_store_blk 84 _ _ rfl (cs' := us [q.1, q.2.1, q.2.2.1, q.2.2.2]) hg1 (h4 (hpre 12 rfl rfl)) hg3 (us_one _) rfl (n := 4) (by kernel_rfl) rfl ?_
        intro w' hb ho
        refine hK _ _ ⟨h1.only ho (by omega), h2.only ho (by omega), ho.below h3 (by omega), fun _ => by simpa using h4 (hpre 12 rfl rfl), fun _ => ⟨g, by simpa using hg1, hg2, by simpa using hb⟩⟩
    · intro L T w hall hG
      obtain ⟨h1, h2, h3, h4, h5⟩ := hG
      obtain ⟨g, hg1, hg2, hg3⟩ := h5 (hall 13 (by decide) rfl)
      rw [if_pos (hall 14 (by decide) rfl)] at hg3
      simp only [fillT, fillP, List.foldl_cons, List.foldl_nil]
      refine hK' _ _ (Met.intro (hJ _ _ ?_))
      simp only [Act.put]
      go_simp
  case rest =>
    obtain ⟨g, rfl, hBg, hgB, hBs, hBz, hbb⟩ := hcut
    have inv0 : AtInv B g w wc [q.1, q.2.1, q.2.2.1, q.2.2.2] s := ⟨hBg, hgB, hBs, hBz, hbb⟩
    clear hBg hgB hBs hBz hbb
    have c1 := inv0.s.at_ i (us_get _ i (by rw [HS.out]; omega))
    have c2 := inv0.s.free i
    have c3 := inv0.g.at_ 0 (us_get [q.1, q.2.1, q.2.2.1, q.2.2.2] 0 (by simp))
    have inv1 := inv0.put i q.1
    go_upto_region 3 with fail
    clear c1 c2 c3 inv0
    generalize wc.setCell ⟨B, i, none⟩ (.int .u32 q.1) = w2 at *
    have c1 := inv1.s.at_ j (us_get _ j (by simp only [List.length_set]; rw [HS.out]; omega))
    have c2 := inv1.s.free j
    have c3 := inv1.g.at_ 1 (us_get [q.1, q.2.1, q.2.2.1, q.2.2.2] 1 (by simp))
    have inv2 := inv1.put j q.2.1
    go_upto_region 4 with fail
    clear c1 c2 c3 inv1
    generalize w2.setCell ⟨B, j, none⟩ (.int .u32 q.2.1) = w3 at *
    have c1 := inv2.s.at_ k (us_get _ k (by simp only [List.length_set]; rw [HS.out]; omega))
    have c2 := inv2.s.free k
    have c3 := inv2.g.at_ 2 (us_get [q.1, q.2.1, q.2.2.1, q.2.2.2] 2 (by simp))
    have inv3 := inv2.put k q.2.2.1
    go_upto_region 5 with fail
    clear c1 c2 c3 inv2
    generalize w3.setCell ⟨B, k, none⟩ (.int .u32 q.2.2.1) = w4 at *
    have c1 := inv3.s.at_ l (us_get _ l (by simp only [List.length_set]; rw [HS.out]; omega))
    have c2 := inv3.s.free l
    have c3 := inv3.g.at_ 3 (us_get [q.1, q.2.1, q.2.2.1, q.2.2.2] 3 (by simp))
    have inv4 := inv3.put l q.2.2.2
    go_upto_region 6 with fail
    clear c1 c2 c3 inv3
    generalize w4.setCell ⟨B, l, none⟩ (.int .u32 q.2.2.2) = w5 at *
    go_wp2_with (first
      | (refine wp_load_blk rfl 62 (.tmp 5) rfl rfl inv4.s Tryd.underlying62 rfl (n := 16) (by kernel_rfl) (by rw [us_len]; simp only [List.length_set]; rw [HS.out]) ?_)
      | (refine wp_store_blk rfl 62 (.tmp 10) (.tmp 41) rfl rfl rfl inv4.z (us_one _) (by rw [us_len, us_len]; simp only [List.length_set]; rw [HS.out]; rfl) (n := 16) (by kernel_rfl) (by rw [us_len]; simp only [List.length_set]; rw [HS.out]) ?_; intro w' hb ho))
    refine ret_blk rfl rfl hb Tryd.underlying62 rfl (n := 16) (by kernel_rfl) (by rw [us_len]; simp only [List.length_set]; rw [HS.out]) rfl ?_
    rw [hB]
    refine ⟨?_, ho.below inv4.b (by omega)⟩
    simp only [qr, ← HQ.out]
end Go.Proofs.YtmjjnaaiakchhaaDoor
