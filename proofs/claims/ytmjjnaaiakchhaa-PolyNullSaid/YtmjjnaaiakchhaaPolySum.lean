/-
  poly.Sum.
-/
import Derived.Test.YtmjjnaaiakchhaaMacSum
import Derived.Test.YtmjjnaaiakchhaaNew
namespace Go.Proofs.Ytmjjnaaiakchhaa
open Go.RowKit

theorem tagL_len (key xs : List Int) : (tagL key xs).length = 16 := by rw [tagL, lowN_len]
theorem tagL_isB (key xs : List Int) : IsB (tagL key xs) := lowN_isB _ _

set_option maxRecDepth 100000 in
set_option maxHeartbeats 2000000 in
theorem polysum_any (w : World) (key xs : List Int) (v : Value) (hk : key.length = 32) (hkb : IsB key) (hd : Rd w v (bs xs)) (hxs : IsB xs) (hl : xs.length ≤ 1000000000000) :
    Calls Try.prog 18 #[.agg (bs key).toArray, v] w fun e w' => e = .returned (.agg (bs (tagL key xs)).toArray) ∧ Below w.heap.size w w' := by
  have HK := Lib.hid hk
  have HKB := Lib.hid hkb
  have HD := Lib.hid hd
  have HXS := Lib.hid hxs
  clear hk hkb hd hxs
  obtain ⟨B, hB⟩ : ∃ B, w.heap.size = B := ⟨_, rfl⟩
  go_enter Try.func18, Try.ntmps18
  go_upto_region 1 with fail
  change Code.wp _ _ _ _ ((w.alloc (.cells (bs key).toArray 29)).alloc (.cells (bs (List.replicate 16 0)).toArray 35))
  have b0 : Blk ((w.alloc (.cells (bs key).toArray 29)).alloc (.cells (bs (List.replicate 16 0)).toArray 35)) B (bs key) 29 := (Blk.mk_ _ hB.symm rfl).al _
  have b1 : Blk ((w.alloc (.cells (bs key).toArray 29)).alloc (.cells (bs (List.replicate 16 0)).toArray 35)) (B + 1) (bs (List.replicate 16 0)) 35 := Blk.mk_ _ (by simp [hB]) rfl
  have bb : Below B w ((w.alloc (.cells (bs key).toArray 29)).alloc (.cells (bs (List.replicate 16 0)).toArray 35)) := bw_al (bw_al (Below.refl _ _) (by omega) _) (by simp; omega) _
  generalize ((w.alloc (.cells (bs key).toArray 29)).alloc (.cells (bs (List.replicate 16 0)).toArray 35)) = w1 at *
  have hB1 : B + 1 < w1.heap.size := b1.lt
  have B1 := Lib.hid b1
  have BB := Lib.hid bb
  have NW := Lib.hid (new_any w1 key HK.out HKB.out)
  clear b1 bb
  go_upto_region 2 with (first
    | (refine wp_load_blk rfl 29 (.tmp 2) rfl rfl b0 Try.underlying29 rfl (n := 32) (by kernel_rfl) (by rw [bs_len, HK.out]) ?_)
    | (go_at_call 14; refine NW.out.mono ?_; rintro e w2 ⟨g, rfl, hg, hm2, hb2⟩))
  have hd2 : Rd w2 v (bs xs) := (HD.out.stay BB.out (by omega)).stay hb2 (Nat.le_refl _)
  have WR := Lib.hid (write_any w2 g key [] xs v HKB.out hm2 hd2 HXS.out (fun z hz => by simp at hz) (by simpa using hl))
  rw [List.nil_append] at WR
  clear b0 hd2 hm2
  go_upto_region 3 with (go_at_call 15; refine WR.out.mono ?_; rintro e w3 ⟨rfl, hm3, ht3⟩)
  have SM := Lib.hid (macsum_any w3 g key xs HKB.out HXS.out HK.out hm3)
  have hbl3 : Below w1.heap.size w1 w3 := Turns.below hb2 ht3 hb2.size (fun j hj => by rcases hj with rfl | h; exact hg; exact h.elim)
  have htl : (bs (tagL key xs)).length = 16 := by rw [bs_len, tagL_len]
  have hs3 := hbl3.size
  clear hm3
  go_wp2_with (first
    | (go_at_call 16; refine SM.out.mono ?_; rintro e w4 ⟨rfl, hb4⟩)
    | (refine wp_store_blk rfl 35 (.tmp 4) (.tmp 12) rfl rfl rfl ((B1.out.stay hbl3).stay hb4) (bs_one _) (by rw [htl]; rfl) (n := 16) (by kernel_rfl) htl ?_; intro wz hbz honz))
  refine ret_blk rfl rfl hbz Try.underlying35 rfl (n := 16) (by kernel_rfl) htl rfl ?_
  have hbl4 := bw_then hbl3 hb4 hs3
  exact ⟨rfl, by rw [hB]; exact honz.below (bw_then BB.out hbl4 (by omega)) (by omega)⟩
end Go.Proofs.Ytmjjnaaiakchhaa
