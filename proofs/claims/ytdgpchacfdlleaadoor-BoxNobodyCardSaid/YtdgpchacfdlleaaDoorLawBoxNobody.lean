/-
  The statement BoxNobody: a box that no call made does nothing. The tables that the program lays are as they were laid.
-/
import Derived.Test.YtdgpchacfdlleaaDoorBy1
import Derived.Test.YtdgpchacfdlleaaDoorCards
import Derived.Test.YtdgpchacfdlleaaDoorTie
namespace Go.Proofs.YtdgpchacfdlleaaDoor.lawBoxNobody
open Go.ChangeShapes Go.WideShapes Go.ChangeAt Go.RowKit

set_option maxRecDepth 100000 in
set_option maxHeartbeats 4000000 in
theorem walk (w : World) (a : ActBS) (ha : ActB w a) :
    Calls Tryd.prog 7 #[.agg a.cells.toArray] w fun e w' => e = .returned (.bool true) ∧ Below w.heap.size w w' := by
  obtain ⟨Z, hZ⟩ : ∃ z, w.heap.size = z := ⟨_, rfl⟩
  obtain ⟨kd, ⟨ia, ib, ic, id_, ie, if_⟩, n, va, ad, vt, text, at_, by_⟩ := a
  obtain ⟨Aa, ca, hva, -⟩ := id ha.ra
  obtain ⟨At, ct, hvt, -⟩ := id ha.rt
  simp only at hva hvt
  subst hva hvt
  simp only [bs_len]
  obtain ⟨la, hla⟩ : ∃ x, ad.length = x := ⟨_, rfl⟩
  obtain ⟨lt, hlt⟩ : ∃ x, text.length = x := ⟨_, rfl⟩
  rw [hla, hlt]
  simp only [ActBS.cells]
  clear ha hla hlt
  go_enter Tryd.func7, Tryd.ntmps7
  go_upto_region 2 with fail
  obtain ⟨w4, hw4⟩ : ∃ w4, ((w.alloc (.cells #[.int .u8 kd, .int .i64 ia, .int .i64 ib, .int .i64 ic, .int .i64 id_, .int .i64 ie, .int .i64 if_, .int .i64 n, .slice Aa la ca, .slice At lt ct, .int .u8 at_, .int .u8 by_] 26)).alloc (.cells #[.slice none 0 0, .bool false, .bool false, .slice none 0 0, .slice none 0 0, .map none, .int .i64 0, .int .i64 0] 59)).alloc (.cells #[.pointer none, .pointer (some ⟨Z + 1, 0, none⟩)] 30) = w4 := ⟨_, rfl⟩
  have hA4 : Blk w4 Z [.int .u8 kd, .int .i64 ia, .int .i64 ib, .int .i64 ic, .int .i64 id_, .int .i64 ie, .int .i64 if_, .int .i64 n, .slice Aa la ca, .slice At lt ct, .int .u8 at_, .int .u8 by_] 26 := by rw [← hw4]; exact ((Blk.mk_ _ hZ.symm rfl).al _).al _
  have hB4 : Blk w4 (Z + 1) zeroBox 59 := by rw [← hw4]; exact (Blk.mk_ _ (by simp [hZ]) rfl).al _
  have hC4 : Blk w4 (Z + 2) [.pointer none, .pointer (some ⟨Z + 1, 0, none⟩)] 30 := by rw [← hw4]; exact Blk.mk_ _ (by simp [hZ]) rfl
  have hl4 : Below Z w w4 := by rw [← hw4]; exact bw_al (bw_al (bw_al (Below.refl _ _) (by omega) _) (by simp; omega) _) (by simp; omega) _
  have hs4 : Z ≤ w4.heap.size := by rw [← hw4]; simp; omega
  rw [hw4]
  have hb4 := hA4
  have y1 : ∀ w', Below w4.heap.size w4 w' → w'.cell? ⟨Z, 1, none⟩ = some (.int .i64 ia) := fun w' hb => (hb4.stay hb).at_ 1 rfl
  have y2 : ∀ w', Below w4.heap.size w4 w' → w'.cell? ⟨Z, 2, none⟩ = some (.int .i64 ib) := fun w' hb => (hb4.stay hb).at_ 2 rfl
  have y3 : ∀ w', Below w4.heap.size w4 w' → w'.cell? ⟨Z, 3, none⟩ = some (.int .i64 ic) := fun w' hb => (hb4.stay hb).at_ 3 rfl
  have y4 : ∀ w', Below w4.heap.size w4 w' → w'.cell? ⟨Z, 4, none⟩ = some (.int .i64 id_) := fun w' hb => (hb4.stay hb).at_ 4 rfl
  have y5 : ∀ w', Below w4.heap.size w4 w' → w'.cell? ⟨Z, 5, none⟩ = some (.int .i64 ie) := fun w' hb => (hb4.stay hb).at_ 5 rfl
  have y6 : ∀ w', Below w4.heap.size w4 w' → w'.cell? ⟨Z, 6, none⟩ = some (.int .i64 if_) := fun w' hb => (hb4.stay hb).at_ 6 rfl
  have y7 : ∀ w', Below w4.heap.size w4 w' → w'.cell? ⟨Z, 7, none⟩ = some (.int .i64 n) := fun w' hb => (hb4.stay hb).at_ 7 rfl
  have y8 : ∀ w', Below w4.heap.size w4 w' → w'.cell? ⟨Z, 8, none⟩ = some (.slice Aa la ca) := fun w' hb => (hb4.stay hb).at_ 8 rfl
  have y9 : ∀ w', Below w4.heap.size w4 w' → w'.cell? ⟨Z, 9, none⟩ = some (.slice At lt ct) := fun w' hb => (hb4.stay hb).at_ 9 rfl
  have z0 : ∀ w', Below w4.heap.size w4 w' → w'.cell? ⟨Z + 2, 0, none⟩ = some (.pointer none) := fun w' hb => (hC4.stay hb).at_ 0 rfl
  have z1 : ∀ w', Below w4.heap.size w4 w' → w'.cell? ⟨Z + 2, 1, none⟩ = some (.pointer (some ⟨Z + 1, 0, none⟩)) := fun w' hb => (hC4.stay hb).at_ 1 rfl
  have hw0 : IntKind.i64.wrap 0 = 0 := by rw [IntKind.wrap_i64]; omega
  have HB4 := Lib.hid hB4; have HL4 := Lib.hid hl4; have HS4 := Lib.hid hs4
  clear hA4 hB4 hC4 hl4 hs4 hw4 hb4
  go_wp2_with fail
  go_loopw [4] (fun x wr => ∃ (k : Nat), k ≤ 2 ∧ x = .int .i64 k ∧ Below w4.heap.size w4 wr) (fun x _ => 2 - (intOf x).toNat)
  case atStart => exact ⟨0, Nat.zero_le _, rfl, Below.refl _ _⟩
  case round =>
    obtain ⟨k, hk, rfl, hq⟩ := hrel
    obtain ⟨wq, rfl⟩ : ∃ wq : World, wq = wr := ⟨_, rfl⟩
    rcases (show k = 0 ∨ k = 1 ∨ k = 2 by omega) with rfl | rfl | rfl
    · obtain ⟨v, hv⟩ : ∃ v, Value.pointer none = v := ⟨_, rfl⟩
      have DD := Lib.hid (fun (w' : World) (hb : Below w4.heap.size w4 w') => (show DeadB w' v from .inl hv.symm))
      rw [hv] at z0
      clear hv
      go_upto_region 5 with fail
      have hqd := bw_d1 hq
      refine region_plan ⟨[0, 0, 3, 7, 0, 16, 0, 64, 0, 256, 0, 1024, 4095, 8191, 16383, 16383, 32767, 131071], [12], [0, 0, 0, 0, 0, 0, 0, 0, 0, 0, 0, 0, 0, 1, 1, 1, 1, 1]⟩
        [⟨[0, 1, 2, 3, 4, 5, 6, 7, 8, 9, 10, 11], [2, 3, 4, 5, 6, 7, 8, 9, 10, 11], some 12⟩, ⟨[13, 14, 15, 16, 17], [14, 15], none⟩] 111 (by kernel_rfl) (by kernel_rfl) (by kernel_rfl) (by kernel_rfl) rfl ?_
      simp only [SeqGo, opsAt_cons, opsAt_nil, List.getElem?_cons, Option.toList_some, List.singleton_append, ↓reduceIte, Nat.reduceEqDiff, Nat.reduceSub]
      go_wp2_with fail
      refine ⟨by (simp only [Sames, Same]; go_simp), ?_⟩
      go_wp2_with (go_at_call 18; refine (seal_dead _ v (DD.out _ hqd) (.int .i64 ia) (.int .i64 ib) (.int .i64 ic) (.int .i64 id_) (.int .i64 ie) (.int .i64 if_) _ _ _).mono ?_; rintro e w9 ⟨rfl, hb⟩; have hq5 := bw_next hqd hb; clear hb)
      refine ⟨by (simp only [Sames, Same]; go_simp), ?_⟩
      go_upto_region 6 with fail
      have hq5d := bw_d1 hq5
      refine region_plan ⟨[0, 0, 3, 7, 0, 16, 0, 64, 0, 256, 0, 1024, 4095, 8191, 16383, 16383, 32767, 131071], [12], [0, 0, 0, 0, 0, 0, 0, 0, 0, 0, 0, 0, 0, 1, 1, 1, 1, 1]⟩
        [⟨[0, 1, 2, 3, 4, 5, 6, 7, 8, 9, 10, 11], [2, 3, 4, 5, 6, 7, 8, 9, 10, 11], some 12⟩, ⟨[13, 14, 15, 16, 17], [14, 15], none⟩] 111 (by kernel_rfl) (by kernel_rfl) (by kernel_rfl) (by kernel_rfl) rfl ?_
      simp only [SeqGo, opsAt_cons, opsAt_nil, List.getElem?_cons, Option.toList_some, List.singleton_append, ↓reduceIte, Nat.reduceEqDiff, Nat.reduceSub]
      go_wp2_with fail
      refine ⟨by (simp only [Sames, Same]; go_simp), ?_⟩
      go_wp2_with (go_at_call 19; refine (open_dead _ v (DD.out _ hq5d) (.int .i64 ia) (.int .i64 ib) (.int .i64 ic) (.int .i64 id_) (.int .i64 ie) (.int .i64 if_) _ _ _).mono ?_; rintro e w9 ⟨rfl, hb⟩; have hq6 := bw_next hq5d hb; clear hb)
      refine ⟨by (simp only [Sames, Same]; go_simp), ?_⟩
      go_upto_region 7 with fail
      have hq6d := bw_d1 hq6
      refine region_plan ⟨[0, 0, 3, 7, 0, 16, 0, 64, 255, 511, 1023, 1023, 2047, 8191], [8], [0, 0, 0, 0, 0, 0, 0, 0, 0, 1, 1, 1, 1, 1]⟩
        [⟨[0, 1, 2, 3, 4, 5, 6, 7], [2, 3, 4, 5, 6, 7], some 8⟩, ⟨[9, 10, 11, 12, 13], [10, 11], none⟩] 111 (by kernel_rfl) (by kernel_rfl) (by kernel_rfl) (by kernel_rfl) rfl ?_
      simp only [SeqGo, opsAt_cons, opsAt_nil, List.getElem?_cons, Option.toList_some, List.singleton_append, ↓reduceIte, Nat.reduceEqDiff, Nat.reduceSub]
      go_wp2_with fail
      refine ⟨by (simp only [Sames, Same]; go_simp), ?_⟩
      go_wp2_with (go_at_call 22; refine (mark_dead _ v (DD.out _ hq6d) (.int .i64 ia) (.int .i64 ib) (.int .i64 ic) (.int .i64 id_) (.int .i64 ie) (.int .i64 if_) _).mono ?_; rintro e w9 ⟨rfl, hb⟩; have hq7 := bw_next hq6d hb; clear hb)
      refine ⟨by (simp only [Sames, Same]; go_simp), ?_⟩
      go_upto_region 8 with fail
      have hq7d := bw_d1 hq7
      refine region_plan ⟨[0, 1, 0, 4, 15, 0, 32, 127, 0, 0, 768, 1792, 3840, 8191, 0, 0, 49152, 114688, 253696, 524287, 1048575, 2097151, 4194303, 8388607, 16777215, 33554431, 67108863, 134217727, 268435455, 536870911, 1073741823, 2147483647, 4294967295, 8589934591, 17179869183, 17179869183, 68719476735, 137438953471, 17179869183, 292057776127, 17179869183, 1116691496959, 17179869183, 4415226380287, 17592186044415, 35184372088831], [12, 18, 44], [0, 0, 0, 0, 0, 0, 0, 0, 0, 0, 0, 0, 0, 1, 0, 0, 0, 0, 1, 2, 2, 2, 2, 2, 2, 2, 2, 2, 2, 2, 2, 2, 2, 2, 2, 2, 2, 2, 2, 2, 2, 2, 2, 2, 2, 3]⟩
        [⟨[0, 1, 2, 3, 4, 5, 6, 7, 8, 9, 10, 11, 14, 15, 16, 17], [1, 3, 4, 6, 7, 10, 11, 16, 17], some 12⟩, ⟨[13], [1, 3, 4, 6, 7, 13, 16, 17], some 18⟩, ⟨[19, 20, 21, 22, 23, 24, 25, 26, 27, 28, 29, 30, 31, 32, 33, 34, 35, 36, 37, 38, 39, 40, 41, 42, 43], [1, 3, 4, 6, 7, 13, 19, 20, 23, 27, 31, 36, 37, 38, 39, 40, 41, 42, 43], some 44⟩, ⟨[45], [], none⟩] 111 (by kernel_rfl) (by kernel_rfl) (by kernel_rfl) (by kernel_rfl) rfl ?_
      simp only [SeqGo, opsAt_cons, opsAt_nil, List.getElem?_cons, Option.toList_some, List.singleton_append, ↓reduceIte, Nat.reduceEqDiff, Nat.reduceSub]
      go_wp2_with fail
      refine ⟨by (simp only [Sames, Same]; go_simp), ?_⟩
      go_wp2_with (go_at_call 29; refine (sealed_dead _ v (DD.out _ hq7d)).mono ?_; rintro e w9 ⟨rfl, rfl⟩)
      refine ⟨by (simp only [Sames, Same]; go_simp), ?_⟩
      go_wp2_with (go_at_call 30; refine (repeats_dead _ v (DD.out _ hq7d)).mono ?_; rintro e w9 ⟨rfl, rfl⟩)
      refine ⟨by (simp only [Sames, Same]; go_simp), ?_⟩
      go_wp2_with (go_at_call 24; refine (check_dead _ v (DD.out _ hq7d) (.int .i64 ia) (.int .i64 ib) (.int .i64 ic) (.int .i64 id_) (.int .i64 ie) (.int .i64 if_) _ _).mono ?_; rintro e w9 ⟨rfl, hb⟩; have hq8 := bw_next hq7d hb; clear hb)
      refine ⟨trivial, ?_⟩
      go_wp2_with fail
      exact ⟨⟨1, by omega, rfl, hq8⟩, by simp [intOf]⟩
    · obtain ⟨v, hv⟩ : ∃ v, Value.pointer (some ⟨Z + 1, 0, none⟩) = v := ⟨_, rfl⟩
      have DD := Lib.hid (fun (w' : World) (hb : Below w4.heap.size w4 w') => (show DeadB w' v from .inr ⟨Z + 1, hv.symm, HB4.out.stay hb⟩))
      rw [hv] at z1
      clear hv
      go_upto_region 5 with fail
      have hqd := bw_d1 hq
      refine region_plan ⟨[0, 0, 3, 7, 0, 16, 0, 64, 0, 256, 0, 1024, 4095, 8191, 16383, 16383, 32767, 131071], [12], [0, 0, 0, 0, 0, 0, 0, 0, 0, 0, 0, 0, 0, 1, 1, 1, 1, 1]⟩
        [⟨[0, 1, 2, 3, 4, 5, 6, 7, 8, 9, 10, 11], [2, 3, 4, 5, 6, 7, 8, 9, 10, 11], some 12⟩, ⟨[13, 14, 15, 16, 17], [14, 15], none⟩] 111 (by kernel_rfl) (by kernel_rfl) (by kernel_rfl) (by kernel_rfl) rfl ?_
      simp only [SeqGo, opsAt_cons, opsAt_nil, List.getElem?_cons, Option.toList_some, List.singleton_append, ↓reduceIte, Nat.reduceEqDiff, Nat.reduceSub]
      go_wp2_with fail
      refine ⟨by (simp only [Sames, Same]; go_simp), ?_⟩
      go_wp2_with (go_at_call 18; refine (seal_dead _ v (DD.out _ hqd) (.int .i64 ia) (.int .i64 ib) (.int .i64 ic) (.int .i64 id_) (.int .i64 ie) (.int .i64 if_) _ _ _).mono ?_; rintro e w9 ⟨rfl, hb⟩; have hq5 := bw_next hqd hb; clear hb)
      refine ⟨by (simp only [Sames, Same]; go_simp), ?_⟩
      go_upto_region 6 with fail
      have hq5d := bw_d1 hq5
      refine region_plan ⟨[0, 0, 3, 7, 0, 16, 0, 64, 0, 256, 0, 1024, 4095, 8191, 16383, 16383, 32767, 131071], [12], [0, 0, 0, 0, 0, 0, 0, 0, 0, 0, 0, 0, 0, 1, 1, 1, 1, 1]⟩
        [⟨[0, 1, 2, 3, 4, 5, 6, 7, 8, 9, 10, 11], [2, 3, 4, 5, 6, 7, 8, 9, 10, 11], some 12⟩, ⟨[13, 14, 15, 16, 17], [14, 15], none⟩] 111 (by kernel_rfl) (by kernel_rfl) (by kernel_rfl) (by kernel_rfl) rfl ?_
      simp only [SeqGo, opsAt_cons, opsAt_nil, List.getElem?_cons, Option.toList_some, List.singleton_append, ↓reduceIte, Nat.reduceEqDiff, Nat.reduceSub]
      go_wp2_with fail
      refine ⟨by (simp only [Sames, Same]; go_simp), ?_⟩
      go_wp2_with (go_at_call 19; refine (open_dead _ v (DD.out _ hq5d) (.int .i64 ia) (.int .i64 ib) (.int .i64 ic) (.int .i64 id_) (.int .i64 ie) (.int .i64 if_) _ _ _).mono ?_; rintro e w9 ⟨rfl, hb⟩; have hq6 := bw_next hq5d hb; clear hb)
      refine ⟨by (simp only [Sames, Same]; go_simp), ?_⟩
      go_upto_region 7 with fail
      have hq6d := bw_d1 hq6
      refine region_plan ⟨[0, 0, 3, 7, 0, 16, 0, 64, 255, 511, 1023, 1023, 2047, 8191], [8], [0, 0, 0, 0, 0, 0, 0, 0, 0, 1, 1, 1, 1, 1]⟩
        [⟨[0, 1, 2, 3, 4, 5, 6, 7], [2, 3, 4, 5, 6, 7], some 8⟩, ⟨[9, 10, 11, 12, 13], [10, 11], none⟩] 111 (by kernel_rfl) (by kernel_rfl) (by kernel_rfl) (by kernel_rfl) rfl ?_
      simp only [SeqGo, opsAt_cons, opsAt_nil, List.getElem?_cons, Option.toList_some, List.singleton_append, ↓reduceIte, Nat.reduceEqDiff, Nat.reduceSub]
      go_wp2_with fail
      refine ⟨by (simp only [Sames, Same]; go_simp), ?_⟩
      go_wp2_with (go_at_call 22; refine (mark_dead _ v (DD.out _ hq6d) (.int .i64 ia) (.int .i64 ib) (.int .i64 ic) (.int .i64 id_) (.int .i64 ie) (.int .i64 if_) _).mono ?_; rintro e w9 ⟨rfl, hb⟩; have hq7 := bw_next hq6d hb; clear hb)
      refine ⟨by (simp only [Sames, Same]; go_simp), ?_⟩
      go_upto_region 8 with fail
      have hq7d := bw_d1 hq7
      refine region_plan ⟨[0, 1, 0, 4, 15, 0, 32, 127, 0, 0, 768, 1792, 3840, 8191, 0, 0, 49152, 114688, 253696, 524287, 1048575, 2097151, 4194303, 8388607, 16777215, 33554431, 67108863, 134217727, 268435455, 536870911, 1073741823, 2147483647, 4294967295, 8589934591, 17179869183, 17179869183, 68719476735, 137438953471, 17179869183, 292057776127, 17179869183, 1116691496959, 17179869183, 4415226380287, 17592186044415, 35184372088831], [12, 18, 44], [0, 0, 0, 0, 0, 0, 0, 0, 0, 0, 0, 0, 0, 1, 0, 0, 0, 0, 1, 2, 2, 2, 2, 2, 2, 2, 2, 2, 2, 2, 2, 2, 2, 2, 2, 2, 2, 2, 2, 2, 2, 2, 2, 2, 2, 3]⟩
        [⟨[0, 1, 2, 3, 4, 5, 6, 7, 8, 9, 10, 11, 14, 15, 16, 17], [1, 3, 4, 6, 7, 10, 11, 16, 17], some 12⟩, ⟨[13], [1, 3, 4, 6, 7, 13, 16, 17], some 18⟩, ⟨[19, 20, 21, 22, 23, 24, 25, 26, 27, 28, 29, 30, 31, 32, 33, 34, 35, 36, 37, 38, 39, 40, 41, 42, 43], [1, 3, 4, 6, 7, 13, 19, 20, 23, 27, 31, 36, 37, 38, 39, 40, 41, 42, 43], some 44⟩, ⟨[45], [], none⟩] 111 (by kernel_rfl) (by kernel_rfl) (by kernel_rfl) (by kernel_rfl) rfl ?_
      simp only [SeqGo, opsAt_cons, opsAt_nil, List.getElem?_cons, Option.toList_some, List.singleton_append, ↓reduceIte, Nat.reduceEqDiff, Nat.reduceSub]
      go_wp2_with fail
      refine ⟨by (simp only [Sames, Same]; go_simp), ?_⟩
      go_wp2_with (go_at_call 29; refine (sealed_dead _ v (DD.out _ hq7d)).mono ?_; rintro e w9 ⟨rfl, rfl⟩)
      refine ⟨by (simp only [Sames, Same]; go_simp), ?_⟩
      go_wp2_with (go_at_call 30; refine (repeats_dead _ v (DD.out _ hq7d)).mono ?_; rintro e w9 ⟨rfl, rfl⟩)
      refine ⟨by (simp only [Sames, Same]; go_simp), ?_⟩
      go_wp2_with (go_at_call 24; refine (check_dead _ v (DD.out _ hq7d) (.int .i64 ia) (.int .i64 ib) (.int .i64 ic) (.int .i64 id_) (.int .i64 ie) (.int .i64 if_) _ _).mono ?_; rintro e w9 ⟨rfl, hb⟩; have hq8 := bw_next hq7d hb; clear hb)
      refine ⟨trivial, ?_⟩
      go_wp2_with fail
      exact ⟨⟨2, by omega, rfl, hq8⟩, by simp [intOf]⟩
    · go_wp2_with (go_at_call 16; refine (awake08_any _).mono ?_; rintro e w' ⟨rfl, hb'⟩)
      all_goals (try go_ret)
      have := bw_then (HL4.out.trans (hq.mono HS4.out)) hb' (by have := hq.size; have := HS4.out; omega)
      exact ⟨rfl, by first | exact this | (rw [hZ]; exact this)⟩

set_option maxRecDepth 100000 in
theorem contract (H : Type) (enc : TypeId × Value → H) (W : World) (base : Nat) (args : Array Value) (ds gs : List (DataW H)) (before : List MemPlace)
    (hval : ∀ (j : Nat) t v, Tryd.f7.params[j]? = some t → args[j]? = some v → Value.okWide Tryd.prog W .any base t v)
    (hW : DataW.Whole enc Tryd.prog Tryd.f7.params.toList Rows.boxNobodySpec.vars false W args.toList ds gs before) (_hL : laidMetH Tryd.prog Rows.boxNobodyRow.laid W) :
    Calls Tryd.prog 7 args W fun e W' => ∃ v, e = .returned v ∧ Rows.boxNobodySpec.post enc Tryd.prog Tryd.f7 false true false false W args v W' := by
  have hW' := hW
  obtain ⟨p, q, hA0, hV, rfl, hfz, hnd⟩ := hW
  have hA : DataW.TrodAll enc Tryd.prog W 0 (fun _ => true) true Tryd.f7.params.toList args.toList ds p := hA0
  rw [Tryd.params7] at hA hval
  obtain ⟨v0, vs0, d0, ds0, p0, q0, hargs0, rfl, rfl, h0, r0⟩ := trodAll_cons hA
  obtain ⟨e9, e8, e7⟩ := trodAll_nil r0
  subst e9 e8 e7
  obtain rfl : args = #[v0] := by cases args; simp_all
  obtain ⟨rfl, rfl⟩ := trodVars_none hV
  have hv0 := hval 0 _ v0 rfl rfl
  clear hA0
  obtain ⟨fuel0, hf0⟩ := h0
  obtain ⟨a0, ha0, hcs0⟩ := actb_of_trod hf0
  obtain ⟨x0, rfl⟩ : ∃ cs, v0 = .agg cs := by simp only [Value.okWide] at hv0; obtain ⟨cs, h, _⟩ := hv0; exact ⟨cs, h⟩
  obtain rfl : x0 = a0.cells.toArray := by apply Array.toList_inj.1; simpa [Value.cells] using hcs0
  refine (walk W a0 ha0).mono fun e W' ⟨he, hb⟩ => ⟨_, he, ?_⟩
  exact law_post Tryd.laidOut (by kernel_rfl) (by kernel_rfl) Tryd.underlying4 rfl rfl rfl rfl hW' hb

/-- A WORLD FOR THE WITNESS: the settled one, the table (block 0) holding what its initialiser lays. -/
noncomputable def laidWorld (os : Os) : World :=
  { World.holding Tryd.prog os ⟨#[], #[], []⟩ with heap := (((World.holding Tryd.prog os ⟨#[], #[], []⟩).heap.modify 0 (layT (ns64 rowsC))).modify 1 (layT (ns32 startC))).modify 2 (layT (ns32 cubesC)) }
def wit : Array Value := #[.agg #[.int .u8 0, .int .i64 0, .int .i64 0, .int .i64 0, .int .i64 0, .int .i64 0, .int .i64 0, .int .i64 0, .slice none 0 0, .slice none 0 0, .int .u8 0, .int .u8 0]]
theorem laid_met (os : Os) : laidMet Tryd.prog Rows.boxNobodyRow.laid ((laidWorld os).forCall (fun _ _ => 0) ⟨#[], wit, []⟩).memory :=
  laidMet_of_run' 8 (by kernel_rfl) (by kernel_rfl)
theorem reads (os : Os) {H : Type} (enc : TypeId × Value → H) : ∃ ds places, DataW.whole enc Tryd.prog ((laidWorld os).forCall (fun _ _ => 0) ⟨#[], wit, []⟩).memory Tryd.f7.params.toList Rows.boxNobodySpec.vars false wit.toList 8 = some (ds, [], places) :=
  ⟨[.agg [.lit (.int .u8 0), .agg [.lit (.int .i64 0), .lit (.int .i64 0), .lit (.int .i64 0), .lit (.int .i64 0), .lit (.int .i64 0), .lit (.int .i64 0)], .lit (.int .i64 0), .nil, .nil, .lit (.int .u8 0), .lit (.int .u8 0)]], [], by kernel_rfl⟩

set_option maxRecDepth 100000 in
theorem lifted (os : Os) (started : os.Started) (H : Type) (enc : TypeId × Value → H) (F : Stop.Interp) :
    ReturnsInHanded {} Tryd.checked os 7 .any ((OpenSpec.ofChange Rows.boxNobodySpec).preRow enc Tryd.prog Tryd.f7 Rows.boxNobodyRow.domain false Rows.boxNobodyRow.laid) (((OpenSpec.ofChange Rows.boxNobodySpec).at F).post enc Tryd.prog Tryd.f7 false true false false) := by
  obtain ⟨ds, places, hx⟩ := reads os enc
  refine returnsInHanded_of_row (C := Tryd.checked) (s := OpenSpec.ofChange Rows.boxNobodySpec) Tryd.own started (by kernel_rfl) Tryd.func7
    (witness_row_at (enc := enc) (C := Tryd.checked) false (laidWorld os) wit rfl (by kernel_rfl) (by kernel_rfl) (by kernel_rfl)
      (OpenSpec.preRow_of_cond 8 hx (by kernel_rfl) (fun k hk => by cases hk) (by kernel_rfl) (laid_met os))) ?_
  intro W base args ds gs before hval hW _ _ _ hL _ _
  exact contract H enc W base args ds gs before hval hW hL

theorem said : Rows.BoxNobodySaid :=
  OpenClaim.holds_of_cond 7 Tryd.f7 rfl rfl rfl rfl rfl rfl rfl ⟨rfl, rfl, rfl, rfl, rfl⟩ rfl rfl rfl rfl rfl (by kernel_rfl) Tryd.func7 (by kernel_rfl)
    (of_decide_eq_true (by kernel_rfl)) (by unfold Func.isWrapper; first | (rw [if_pos (by decide +kernel)]; kernel_rfl) | (rw [if_neg (by decide +kernel)]; exact ⟨rfl, rfl⟩))
    (fun os started H enc _ F => by rw [OpenClaim.pre_eq_preRow]; exact lifted os started H enc F)

/-- No parameter wants a stand-in; the program's own looks are off. -/
theorem plain (f : FuncId) (fn : Func) (hf : Tryd.pinned.checked.prog.funcNamed "intaglio/intagliolaw08.BoxNobody" = some f) (hfn : Tryd.pinned.checked.prog.funcs[f]? = some fn) :
    false = Tryd.pinned.checked.prog.looks [] ∧ ∀ (j : Nat) t, fn.params[j]? = some t → Tryd.pinned.checked.prog.wantsStandIn t = false := by
  obtain rfl : f = 7 := Option.some.inj ((show Tryd.prog.funcNamed "intaglio/intagliolaw08.BoxNobody" = some 7 by kernel_rfl).symm.trans hf) |>.symm
  obtain rfl : fn = Tryd.f7 := (Option.some.inj (Tryd.func7.symm.trans hfn)).symm
  refine ⟨by kernel_rfl, fun j t ht => ?_⟩
  rw [Tryd.params7] at ht
  have hall : (#[26].toList.all fun u => !Tryd.prog.wantsStandIn u) = true := by kernel_rfl
  exact (show Tryd.prog.wantsStandIn t = false by simpa using List.all_eq_true.1 hall t (by simpa using Array.mem_of_getElem? ht))

/-- THE CARD. -/
theorem proved : Rows.BoxNobodyCardSaid :=
  Claim7.holds_tied_plain_at .later [] _ _ _ _ said (fun _ h => by cases h) (by kernel_rfl) (fun _ h => by cases h) boxNobody_row_tie rfl ⟨rfl, rfl⟩ (by kernel_rfl) rfl plain (by kernel_rfl)
end Go.Proofs.YtdgpchacfdlleaaDoor.lawBoxNobody
