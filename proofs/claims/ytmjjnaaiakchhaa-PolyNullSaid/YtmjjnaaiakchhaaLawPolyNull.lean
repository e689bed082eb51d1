/-
  The statement PolyNull: of a key whose first half counts for nothing the sum is its last half; a Mac that no call made has none.
-/
import Derived.Test.YtmjjnaaiakchhaaAwakeP
import Derived.Test.YtmjjnaaiakchhaaEls
import Derived.Test.YtmjjnaaiakchhaaAdd
namespace Go.Proofs.Ytmjjnaaiakchhaa.lawPolyNull
open Go.ChangeShapes Go.WideShapes Go.ChangeAt Go.RowKit

def keyN (a b : Int) : List Int := [0, 0, 0, a, b, 0, 0, 0, 0, 0, 0, 0, 0, 0, 0, 0, 0, 0, 0, 0, 0, 0, 0, 0, 0, 0, 0, 0, 0, 0, 0, 0]
def k16 : List Int := [0, 0, 0, 0, 0, 0, 0, 0, 0, 0, 0, 0, 0, 0, 0, 0, 1, 0, 0, 0, 0, 0, 0, 0, 0, 0, 0, 0, 0, 0, 0, 0]
def one16 : List Int := [1, 0, 0, 0, 0, 0, 0, 0, 0, 0, 0, 0, 0, 0, 0, 0]
theorem tag16 : tagL k16 [] = one16 := by decide +kernel
theorem bldN (w : World) (a b : Int) : (Instr.build 29 #[(3, .int .u8 a), (4, .int .u8 b)]).run Try.prog w = .ok (.agg (bs (keyN a b)).toArray) w := run_build w 29 _ _ (by kernel_rfl)
theorem bld16 (w : World) : (Instr.build 29 #[(16, .int .u8 1)]).run Try.prog w = .ok (.agg (bs k16).toArray) w := run_build w 29 _ _ (by kernel_rfl)
theorem bldz (w : World) : (Instr.build 35 #[]).run Try.prog w = .ok (.agg (bs (List.replicate 16 0)).toArray) w := run_build w 35 _ _ (by kernel_rfl)
theorem bldo (w : World) : (Instr.build 35 #[(0, .int .u8 1)]).run Try.prog w = .ok (.agg (bs one16).toArray) w := run_build w 35 _ _ (by kernel_rfl)

theorem and240 : ∀ x : Fin 256, (x.val &&& 240) % 16 = 0 ∧ x.val &&& 240 < 256 := by decide +kernel
theorem and3 : ∀ x : Fin 256, (x.val &&& 3) / 4 = 0 ∧ x.val &&& 3 < 256 := by decide +kernel
theorem odd_hi (x : Int) (hx : 0 ≤ x ∧ x ≤ 255) : ∃ y, bits .and .u8 x 240 = y ∧ (0 ≤ y ∧ y ≤ 255) ∧ y % 16 = 0 := by
  obtain ⟨X, rfl⟩ := Int.eq_ofNat_of_zero_le hx.1
  have h1 := u8_and_nat X 240 (by omega) (by decide)
  have h2 := and240 ⟨X, by omega⟩
  exact ⟨_, h1, by simp only at h2; omega, by simp only at h2; omega⟩
theorem odd_lo (x : Int) (hx : 0 ≤ x ∧ x ≤ 255) : ∃ y, bits .and .u8 x 3 = y ∧ (0 ≤ y ∧ y ≤ 255) ∧ y / 4 * 4 = 0 := by
  obtain ⟨X, rfl⟩ := Int.eq_ofNat_of_zero_le hx.1
  have h1 := u8_and_nat X 3 (by omega) (by decide)
  have h2 := and3 ⟨X, by omega⟩
  exact ⟨_, h1, by simp only at h2; omega, by simp only at h2; omega⟩
theorem tag_null (a b : Int) (s xs : List Int) (hs : s.length = 16) (hsb : IsB s) (ha : a % 16 = 0) (hb : b / 4 * 4 = 0) : tagL ([0, 0, 0, a, b, 0, 0, 0, 0, 0, 0, 0, 0, 0, 0, 0] ++ s) xs = s := by
  have e1 : clampL ([0, 0, 0, a, b, 0, 0, 0, 0, 0, 0, 0, 0, 0, 0, 0] ++ s) = List.replicate 16 0 := by
    rw [clampL_parts]
    simp [List.getD_eq_getElem?_getD, ha, hb]
  have e2 : ([0, 0, 0, a, b, 0, 0, 0, 0, 0, 0, 0, 0, 0, 0, 0] ++ s).drop 16 = s := rfl
  have hr := leV_range hsb
  rw [hs] at hr
  rw [tagL, e1, leV_zeros, hK_zero, Int.zero_add, e2, List.take_of_length_le (by omega)]
  refine leV_inj (lowN_isB _ _) hsb (by rw [lowN_len, hs]) ?_
  rw [leV_lowN _ _ hr.1, Int.emod_eq_of_lt hr.1 hr.2]

set_option maxRecDepth 100000 in
set_option maxHeartbeats 2000000 in
theorem walk (w : World) (s : List Int) (z : Int) (v : Value) (xs : List Int) (hl0 : s.length = 16) (hsb : IsB s) (hz : 0 ≤ z ∧ z ≤ 255) (hr : Rd w v (bs xs)) (hb : IsB xs) :
    Calls Try.prog 8 #[.agg (bs s).toArray, .int .u8 z, v] w fun e w' => e = .returned (.bool true) ∧ Below w.heap.size w w' := by
  have HS := Lib.hid hl0
  have HSB := Lib.hid hsb
  have HD := Lib.hid hr
  have HX := Lib.hid hb
  have hmx := hr.len
  rw [bs_len] at hmx
  have hlv : ∀ w', (Builtin.len_ #[33] 3 #[v]).run Try.prog w' = .ok (goInt xs.length) w' := by
    have := len_fact (P := Try.prog) hr (t := 33) (ty := 3) (by kernel_rfl)
    rwa [bs_len] at this
  obtain ⟨a, ha, har, haz⟩ := odd_hi z hz
  obtain ⟨b, hbb, hbr, hbz⟩ := odd_lo z hz
  have HAB := Lib.hid (fun _ : Unit => (⟨haz, hbz⟩ : a % 16 = 0 ∧ b / 4 * 4 = 0))
  clear hb hr hl0 hsb haz hbz
  obtain ⟨B, hB⟩ : ∃ B, w.heap.size = B := ⟨_, rfl⟩
  go_enter Try.func8, Try.ntmps8
  go_upto_region 1 with fail
  have b1 : Blk (w.alloc (.cells (bs s).toArray 35)) B (bs s) 35 := Blk.mk_ _ hB.symm rfl
  have bb : Below B w (w.alloc (.cells (bs s).toArray 35)) := bw_al (Below.refl _ _) (by omega) _
  have hz1 : (w.alloc (.cells (bs s).toArray 35)).heap.size = B + 1 := by simp [hB]
  generalize w.alloc (.cells (bs s).toArray 35) = w1 at *
  by_cases hl : 1000 < xs.length
  · go_wp2_with (go_at_call 13; refine (awake03_any _).mono ?_; rintro e w' ⟨rfl, hb'⟩)
    all_goals go_ret
    exact ⟨rfl, by rw [hB]; exact bw_then bb hb' (by omega)⟩
  have tok0 : True := trivial
  go_upto_region 4 with (first
    | (have _t := tok0; refine wp_built (vs := #[(3, .int .u8 a), (4, .int .u8 b)]) rfl 29 #[(3, .tmp 15), (4, .tmp 17)] rfl ?hv1 (fun w => bldN w a b) ?_; (case hv1 => rfl); clear tok0)
    | (refine wp_store_blk rfl 29 (.tmp 7) (.tmp 18) rfl rfl rfl (cs' := bs (keyN a b)) (Blk.mk_ (cs := bs (List.replicate 32 0)) _ hz1.symm rfl) (bs_one _) rfl (n := 32) (by kernel_rfl) rfl ?_; intro w2 b2 on2))
  have c1 := (b1.al (.cells (bs (List.replicate 32 0)).toArray 29)).only on2 (by omega)
  have bb2 : Below B w w2 := on2.below (bw_al bb (by omega) _) (by omega)
  clear on2 bb hz1 b1
  have s16 := fun w => slice16 w B
  have s32 := fun w => slice32from w (B + 1)
  refine region_plan ⟨[0, 0, 3], [2], [0, 0, 0]⟩
    [⟨[0, 1], [0, 1], some 2⟩, ⟨[], [], none⟩] 58 (by kernel_rfl) (by kernel_rfl) (by kernel_rfl) (by kernel_rfl) rfl ?_
  simp only [SeqGo, opsAt_cons, opsAt_nil, List.getElem?_cons, Option.toList_some, List.singleton_append, ↓reduceIte, Nat.reduceEqDiff, Nat.reduceSub]
  go_wp2_with fail
  refine ⟨by (simp only [Sames, Same]; go_simp), ?_⟩
  have hsl : (bs s).length = 16 := by rw [bs_len, HS.out]
  have hrs : Rd w2.drew (.slice (some ⟨B, 0, none⟩) 16 16) (bs s) := by have := Rd.of_blk c1 (by rw [hsl]; decide); rwa [hsl] at this
  go_wp2_with (refine wp_copy (.tmp 19) (.tmp 20) 33 33 rfl rfl 5 Try.underlying33 (by kernel_rfl) rfl rfl hrs (by rw [hsl]; decide) (by rw [hsl]; exact Nat.le_refl _) b2.d1 (by rw [hsl]; exact Nat.le_refl 32) (bs_one _) ?_; intro w3 b3 on3)
  refine ⟨trivial, ?_⟩
  rw [hsl] at b3
  have HKEY := Lib.hid (show (bs (keyN a b)).take 16 ++ bs s ++ (bs (keyN a b)).drop (16 + 16) = bs ([0, 0, 0, a, b, 0, 0, 0, 0, 0, 0, 0, 0, 0, 0, 0] ++ s) from by rw [bs_append]; simp [bs, keyN])
  rw [HKEY.out] at b3
  have hb2s := b2.lt
  have c3 := c1.d1.only on3 (by omega)
  have bb3 : Below B w w3 := on3.below (bw_d1 bb2) (by omega)
  have htag := tag_null a b s xs HS.out HSB.out (HAB.out ()).1 (HAB.out ()).2
  have hk32 : ([0, 0, 0, a, b, 0, 0, 0, 0, 0, 0, 0, 0, 0, 0, 0] ++ s).length = 32 := by rw [List.length_append, HS.out]; rfl
  have hkb : IsB ([0, 0, 0, a, b, 0, 0, 0, 0, 0, 0, 0, 0, 0, 0, 0] ++ s) := fun x hx => by
    rcases List.mem_append.1 hx with hx | hx
    · simp only [List.mem_cons, List.not_mem_nil, or_false] at hx; omega
    · exact HSB.out x hx
  have P1 := Lib.hid (fun w v hd => polysum_any w _ xs v hk32 hkb hd HX.out (by omega))
  rw [htag] at P1
  have P2 := Lib.hid (fun w => polysum_any w k16 [] (.slice none 0 0) rfl (by intro x hx; simp only [k16, List.mem_cons, List.not_mem_nil, or_false] at hx; omega) (Rd.nil w) (by intro x hx; simp at hx) (by decide))
  rw [tag16] at P2
  have P3 := Lib.hid (show ∀ w, Calls Try.prog 18 #[.agg #[.int .u8 0, .int .u8 0, .int .u8 0, .int .u8 0, .int .u8 0, .int .u8 0, .int .u8 0, .int .u8 0, .int .u8 0, .int .u8 0, .int .u8 0, .int .u8 0, .int .u8 0, .int .u8 0, .int .u8 0, .int .u8 0, .int .u8 1, .int .u8 0, .int .u8 0, .int .u8 0, .int .u8 0, .int .u8 0, .int .u8 0, .int .u8 0, .int .u8 0, .int .u8 0, .int .u8 0, .int .u8 0, .int .u8 0, .int .u8 0, .int .u8 0, .int .u8 0], .slice none 0 0] w fun e w' => e = .returned (.agg (bs one16).toArray) ∧ Below w.heap.size w w' from fun w => P2.out w)
  clear P2
  have ke1 := eq16 s s HS.out HS.out
  rw [show (s == s) = true by simp] at ke1
  have ke2 : ∀ w, (Op.equalIn 10000 35 (.agg (bs one16).toArray) (.agg #[.int .u8 1, .int .u8 0, .int .u8 0, .int .u8 0, .int .u8 0, .int .u8 0, .int .u8 0, .int .u8 0, .int .u8 0, .int .u8 0, .int .u8 0, .int .u8 0, .int .u8 0, .int .u8 0, .int .u8 0, .int .u8 0])).run Try.prog w = .ok true w := fun w => by
    have := eq16 one16 one16 rfl rfl w
    rw [show (one16 == one16) = true by decide] at this
    exact this
  have ke3 : ∀ w, (Op.equalIn 10000 35 (.agg (bs (List.replicate 16 0)).toArray) (.agg #[.int .u8 0, .int .u8 0, .int .u8 0, .int .u8 0, .int .u8 0, .int .u8 0, .int .u8 0, .int .u8 0, .int .u8 0, .int .u8 0, .int .u8 0, .int .u8 0, .int .u8 0, .int .u8 0, .int .u8 0, .int .u8 0])).run Try.prog w = .ok true w := fun w => by
    have := eq16 (List.replicate 16 0) (List.replicate 16 0) rfl rfl w
    rw [show ((List.replicate 16 (0 : Int)) == List.replicate 16 0) = true by decide] at this
    exact this
  have DS := Lib.hid deadsum_any
  have BZ := Lib.hid bldz
  generalize List.replicate 16 (0 : Int) = Z at *
  generalize one16 = O at *
  have hs3 := b3.lt
  have HK32 := Lib.hid (show (bs ([0, 0, 0, a, b, 0, 0, 0, 0, 0, 0, 0, 0, 0, 0, 0] ++ s)).length = 32 by rw [bs_len, hk32])
  have kl := load_fact b3 29 0 (ys := bs ([0, 0, 0, a, b, 0, 0, 0, 0, 0, 0, 0, 0, 0, 0, 0] ++ s)) (by rw [List.drop_zero, List.take_length]) Try.underlying29 rfl (n := 32) (by kernel_rfl) HK32.out
  have ks := load_fact c3 35 0 (ys := bs s) (by rw [List.drop_zero, List.take_length]) Try.underlying35 rfl (n := 16) (by kernel_rfl) hsl
  clear htag hk32 hkb on3 c1 b2 bb2 hrs b3 c3
  generalize [0, 0, 0, a, b, 0, 0, 0, 0, 0, 0, 0, 0, 0, 0, 0] ++ s = kk at *
  have HD3 := Lib.hid (HD.out.stay bb3 (by omega))
  have BB3 := Lib.hid bb3
  clear bb3
  obtain ⟨C, hC⟩ : ∃ C, w3.heap.size = C := ⟨_, rfl⟩
  go_upto_region 6 with fail
  have m0 : Blk ((w3.alloc (.cells #[.slice none 0 0, .int .u64 0, .int .u64 0, .int .u64 0, .int .u64 0, .int .u64 0, .int .u64 0, .int .u64 0, .int .u64 0, .bool false] 51)).alloc (.cells #[.pointer none, .pointer (some ⟨C, 0, none⟩)] 31)) C (macC (.slice none 0 0) 0 0 0 0 0 0 0 0 false) 51 := (Blk.mk_ _ hC.symm rfl).al _
  have m1 : Blk ((w3.alloc (.cells #[.slice none 0 0, .int .u64 0, .int .u64 0, .int .u64 0, .int .u64 0, .int .u64 0, .int .u64 0, .int .u64 0, .int .u64 0, .bool false] 51)).alloc (.cells #[.pointer none, .pointer (some ⟨C, 0, none⟩)] 31)) (C + 1) [.pointer none, .pointer (some ⟨C, 0, none⟩)] 31 := Blk.mk_ _ (by simp [hC]) rfl
  have bb4 : Below w3.heap.size w3 ((w3.alloc (.cells #[.slice none 0 0, .int .u64 0, .int .u64 0, .int .u64 0, .int .u64 0, .int .u64 0, .int .u64 0, .int .u64 0, .int .u64 0, .bool false] 51)).alloc (.cells #[.pointer none, .pointer (some ⟨C, 0, none⟩)] 31)) := bw_al (bw_al (Below.refl _ _) (by omega) _) (by simp) _
  generalize ((w3.alloc (.cells #[.slice none 0 0, .int .u64 0, .int .u64 0, .int .u64 0, .int .u64 0, .int .u64 0, .int .u64 0, .int .u64 0, .int .u64 0, .bool false] 51)).alloc (.cells #[.pointer none, .pointer (some ⟨C, 0, none⟩)] 31)) = w4 at *
  have hD : ∀ w', Below w4.heap.size w4 w' → Dead w' (some ⟨C, 0, none⟩) := fun w' h => .inr ⟨C, rfl, (m0.stay h).at_ 9 rfl⟩
  have k0 : ∀ w', Below w4.heap.size w4 w' → w'.cell? ⟨C + 1, 0, none⟩ = some (.pointer none) := fun w' h => (m1.stay h).at_ 0 rfl
  have k1 : ∀ w', Below w4.heap.size w4 w' → w'.cell? ⟨C + 1, 1, none⟩ = some (.pointer (some ⟨C, 0, none⟩)) := fun w' h => (m1.stay h).at_ 1 rfl
  have HDD := Lib.hid hD
  have K0 := Lib.hid k0
  have K1 := Lib.hid k1
  clear m0 m1 hD k0 k1
  go_wp2_with fail
  go_loopw [9] (fun x wr => ∃ k : Int, 0 ≤ k ∧ k ≤ 2 ∧ x = .int .i64 k ∧ Below w4.heap.size w4 wr) (fun x _ => 2 - (intOf x).toNat)
  case atStart => exact ⟨0, by decide, by decide, rfl, Below.refl _ _⟩
  case round =>
    obtain ⟨k, hk0, hk, rfl, hbl⟩ := hrel
    obtain ⟨wo, rfl⟩ : ∃ wo : World, wo = wr := ⟨_, rfl⟩
    rcases (show k = 0 ∨ k = 1 ∨ k = 2 by omega) with rfl | rfl | rfl
    · have c0 := K0.out wo hbl
      have tok1 : True := trivial
      go_upto_region 10 with (go_at_call 15; refine (deadwrite_any wo none v (.inl rfl)).mono ?_; rintro e w5 ⟨rfl, hw5⟩; subst hw5)
      go_wp2_with (first
        | (go_at_call 16; refine (DS.out wo none (.inl rfl)).mono ?_; rintro e w5 ⟨rfl, hb5⟩)
        | (have _t := tok1; refine wp_built rfl 35 #[] rfl rfl BZ.out ?_; clear tok1))
      refine ⟨⟨1, by omega, by omega, rfl, bw_then hbl hb5 hbl.size⟩, by simp [intOf]⟩
    · have c0 := K1.out wo hbl
      have tok1 : True := trivial
      go_upto_region 10 with (go_at_call 15; refine (deadwrite_any wo _ v (HDD.out wo hbl)).mono ?_; rintro e w5 ⟨rfl, hw5⟩; subst hw5)
      go_wp2_with (first
        | (go_at_call 16; refine (DS.out wo _ (HDD.out wo hbl)).mono ?_; rintro e w5 ⟨rfl, hb5⟩)
        | (have _t := tok1; refine wp_built rfl 35 #[] rfl rfl BZ.out ?_; clear tok1))
      refine ⟨⟨2, by omega, by omega, rfl, bw_then hbl hb5 hbl.size⟩, by simp [intOf]⟩
    · go_upto_region 12 with fail
      have hbl0 : Below wo.heap.size wo wo.drew := bw_d1 (Below.refl _ _)
      have hb34 : ∀ w', Below wo.heap.size wo w' → Below w3.heap.size w3 w' := fun w' h => bw_then bb4 (bw_then hbl h hbl.size) bb4.size
      have HB34 := Lib.hid hb34
      clear hb34
      refine region_plan ⟨[0, 0, 3, 0, 15, 31, 63, 127, 63, 511, 1023, 2047, 4095, 8191, 16383], [2, 7, 12], [0, 0, 0, 0, 1, 1, 1, 1, 1, 2, 2, 2, 2, 3, 3]⟩
        [⟨[0, 1, 3], [0, 3], some 2⟩, ⟨[4, 5, 6, 8], [3, 4, 6, 8], some 7⟩, ⟨[9, 10, 11], [8, 9], some 12⟩, ⟨[13, 14], [], none⟩] 58 (by kernel_rfl) (by kernel_rfl) (by kernel_rfl) (by kernel_rfl) rfl ?_
      simp only [SeqGo, opsAt_cons, opsAt_nil, List.getElem?_cons, Option.toList_some, List.singleton_append, ↓reduceIte, Nat.reduceEqDiff, Nat.reduceSub]
      go_wp2_with (first
        | (refine wp_load_f rfl 29 (.tmp 7) rfl rfl (kl _ (HB34.out _ (by assumption))) ?_)
        | (refine wp_load_f rfl 35 (.tmp 3) rfl rfl (ks _ (HB34.out _ (by assumption))) ?_))
      refine ⟨⟨same_load rfl 29 (.tmp 7) rfl rfl (kl _ (HB34.out _ (by assumption))) rfl, same_load rfl 35 (.tmp 3) rfl rfl (ks _ (HB34.out _ (by assumption))) rfl, trivial⟩, ?_⟩
      go_wp2_with ((go_at_call 18; refine (P1.out _ _ (HD3.out.stay (HB34.out _ hbl0) (Nat.le_refl _))).mono ?_; rintro e w5 ⟨rfl, hb5⟩; have hbl5 : Below wo.heap.size wo w5 := bw_then hbl0 hb5 hbl0.size; clear hb5))
      refine ⟨⟨same_load rfl 35 (.tmp 3) rfl rfl (ks _ (HB34.out _ (by assumption))) rfl, by (simp only [Same]; go_simp), by (simp only [Same]; go_simp), by (simp only [Same]; go_simp), trivial⟩, ?_⟩
      go_wp2_with (go_at_call 18; refine (P3.out _).mono ?_; rintro e w6 ⟨rfl, hb6⟩; have hbl6 : Below wo.heap.size wo w6 := bw_then hbl5 hb6 hbl5.size; clear hb6)
      refine ⟨by (simp only [Sames, Same]; go_simp), ?_⟩
      go_wp2_with (go_at_call 13; refine (awake03_any _).mono ?_; rintro e w8 ⟨rfl, hb8⟩; have hbl8 : Below wo.heap.size wo w8 := bw_then hbl6 hb8 hbl6.size; clear hb8)
      refine ⟨by (simp only [Sames]; try go_simp), ?_⟩
      go_wp2_with fail
      all_goals go_ret
      exact ⟨rfl, by rw [hB]; exact bw_then BB3.out (HB34.out _ hbl8) (by omega)⟩

set_option maxRecDepth 100000 in
theorem contract (H : Type) (enc : TypeId × Value → H) (W : World) (base : Nat) (args : Array Value) (ds gs : List (DataW H)) (before : List MemPlace)
    (hval : ∀ (j : Nat) t v, Try.f8.params[j]? = some t → args[j]? = some v → Value.okWide Try.prog W .any base t v)
    (hW : DataW.Whole enc Try.prog Try.f8.params.toList Rows.polyNullSpec.vars false W args.toList ds gs before) :
    Calls Try.prog 8 args W fun e W' => ∃ v, e = .returned v ∧ Rows.polyNullSpec.post enc Try.prog Try.f8 false true false false W args v W' := by
  have hW' := hW
  obtain ⟨p, q, hA0, hV, rfl, hfz, hnd⟩ := hW
  have hA : DataW.TrodAll enc Try.prog W 0 (fun _ => true) true Try.f8.params.toList args.toList ds p := hA0
  rw [Try.params8] at hA hval
  obtain ⟨v0, vs0, d0, ds0, p0, q0, hargs0, rfl, rfl, h0, r0⟩ := trodAll_cons hA
  obtain ⟨v1, vs1, d1, ds1, p1, q1, hargs1, e1, rfl, h1, r1⟩ := trodAll_cons r0
  subst e1
  obtain ⟨v2, vs2, d2, ds2, p2, q2, hargs2, e2, rfl, h2, r2⟩ := trodAll_cons r1
  subst e2
  obtain ⟨e9, e8, e7⟩ := trodAll_nil r2
  subst e9 e8 e7
  obtain rfl : args = #[v0, v1, v2] := by cases args; simp_all
  obtain ⟨rfl, rfl⟩ := trodVars_none hV
  have hv0 := hval 0 _ v0 rfl rfl
  have hv1 := hval 1 _ v1 rfl rfl
  have hv2 := hval 2 _ v2 rfl rfl
  clear hA0
  obtain ⟨fuel0, hf0⟩ := h0
  obtain ⟨fuel1, hf1⟩ := h1
  obtain ⟨fuel2, hf2⟩ := h2
  obtain ⟨z0, hl0, hcs0, hw0⟩ := trod_arr_ints Try.underlying35 Try.underlying5 (show Try.prog.cellsOf 5 = 1 by kernel_rfl) (show Try.prog.cellsOf 35 = 16 by kernel_rfl) hf0
  obtain ⟨x0, rfl⟩ : ∃ cs, v0 = .agg cs := by simp only [Value.okWide] at hv0; obtain ⟨cs, h, _⟩ := hv0; exact ⟨cs, h⟩
  obtain rfl : x0 = (z0.map (Value.int .u8)).toArray := by apply Array.toList_inj.1; simpa [Value.cells] using hcs0
  rw [one_of_ok Try.underlying5 rfl hv1] at hf1
  obtain ⟨z1, hcs1, hlo1, hhi1⟩ := int_of_trod Try.underlying5 hf1
  obtain rfl : v1 = .int .u8 z1 := by simpa using hcs1
  rw [one_of_ok Try.underlying33 rfl hv2] at hf2
  obtain ⟨u2, xs2, hcs2, hb2, hr2⟩ := bytes_of_trod hf2
  obtain rfl : v2 = u2 := by simpa using hcs2
  refine (walk W z0 z1 v2 xs2 hl0 (fun z hz => byte_of_wf (hw0 z hz)) ⟨hlo1, hhi1⟩ hr2 hb2).mono fun e W' ⟨he, hb⟩ => ⟨_, he, ?_⟩
  exact law_post Try.laidOut (by kernel_rfl) (by kernel_rfl) Try.underlying4 rfl rfl rfl rfl hW' hb

set_option maxRecDepth 100000 in
theorem lifted (os : Os) (started : os.Started) (H : Type) (enc : TypeId × Value → H) (F : Stop.Interp) :
    ReturnsInHanded {} Try.checked os 8 .any ((OpenSpec.ofChange Rows.polyNullSpec).preRow enc Try.prog Try.f8 Rows.polyNullRow.domain false Rows.polyNullRow.laid) (((OpenSpec.ofChange Rows.polyNullSpec).at F).post enc Try.prog Try.f8 false true false false) := by
  obtain ⟨places, hx⟩ : ∃ places, DataW.whole enc Try.prog ((World.holding Try.prog os ⟨#[], #[], []⟩).forCall (fun _ _ => 0) ⟨#[], #[.agg (List.replicate 16 (Value.int .u8 0)).toArray, .int .u8 0, .slice none 0 0], []⟩).memory Try.f8.params.toList Rows.polyNullSpec.vars false #[.agg (List.replicate 16 (Value.int .u8 0)).toArray, .int .u8 0, .slice none 0 0].toList 8 = some ([.agg (List.replicate 16 (.lit (.int .u8 0))), .lit (.int .u8 0), .nil], [], places) := ⟨[], by kernel_rfl⟩
  refine returnsInHanded_of_row (C := Try.checked) (s := OpenSpec.ofChange Rows.polyNullSpec) Try.own started (by kernel_rfl) Try.func8
    (witness_row_at (enc := enc) (C := Try.checked) false (World.holding Try.prog os ⟨#[], #[], []⟩) #[.agg (List.replicate 16 (Value.int .u8 0)).toArray, .int .u8 0, .slice none 0 0] rfl (by kernel_rfl) (by kernel_rfl) (by kernel_rfl)
      (OpenSpec.preRow_of_cond 8 hx (by kernel_rfl) (fun k hk => by cases hk) (by kernel_rfl) (laid_none _ _))) ?_
  intro W base args ds gs before hval hW _ _ _ _ _ _
  exact contract H enc W base args ds gs before hval hW

theorem proved : Rows.PolyNullSaid :=
  OpenClaim.holds_of_cond 8 Try.f8 rfl rfl rfl rfl rfl rfl rfl ⟨rfl, rfl, rfl, rfl, rfl⟩ rfl rfl rfl rfl rfl (by kernel_rfl) Try.func8 (by kernel_rfl)
    (of_decide_eq_true (by kernel_rfl)) (by unfold Func.isWrapper; first | (rw [if_pos (by decide +kernel)]; kernel_rfl) | (rw [if_neg (by decide +kernel)]; exact ⟨rfl, rfl⟩))
    (fun os started H enc _ F => by rw [OpenClaim.pre_eq_preRow]; exact lifted os started H enc F)
end Go.Proofs.Ytmjjnaaiakchhaa.lawPolyNull
