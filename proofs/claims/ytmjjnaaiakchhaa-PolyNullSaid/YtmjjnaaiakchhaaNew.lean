/-
  poly.New.
-/
import Derived.Test.YtmjjnaaiakchhaaWrite
namespace Go.Proofs.Ytmjjnaaiakchhaa
open Go.RowKit

theorem land_mul (a b c d q : Nat) (k : Nat) (hq : q = 2 ^ k) (ha : a < q) (hc : c < q) : (a + q * b) &&& (c + q * d) = (a &&& c) + q * (b &&& d) := by
  subst hq
  have h1 := Nat.div_add_mod ((a + 2 ^ k * b) &&& (c + 2 ^ k * d)) (2 ^ k)
  rw [Nat.and_div_two_pow, Nat.and_mod_two_pow, Nat.add_mul_div_left _ _ (Nat.two_pow_pos k), Nat.add_mul_div_left _ _ (Nat.two_pow_pos k), Nat.div_eq_of_lt ha, Nat.div_eq_of_lt hc, Nat.zero_add, Nat.zero_add, Nat.add_mul_mod_self_left, Nat.add_mul_mod_self_left, Nat.mod_eq_of_lt ha, Nat.mod_eq_of_lt hc] at h1
  omega
/-- The words of a key, of which some bits count. -/
theorem and_bytes : ∀ (xs ms : List Nat), xs.length = ms.length → (∀ x ∈ xs, x < 256) → (∀ m ∈ ms, m < 256) → (leV (xs.map Int.ofNat)).toNat &&& (leV (ms.map Int.ofNat)).toNat = (leV ((List.zipWith (· &&& ·) xs ms).map Int.ofNat)).toNat := by
  intro xs
  induction xs with
  | nil => intro ms h _ _; cases ms <;> simp_all [leV]
  | cons x xs ih =>
    intro ms h hx hm
    cases ms with
    | nil => simp at h
    | cons m ms =>
      have ih2 := ih ms (by simpa using h) (fun z hz => hx z (by simp [hz])) (fun z hz => hm z (by simp [hz]))
      have nn : ∀ l : List Nat, 0 ≤ leV (l.map Int.ofNat) := fun l => by
        induction l with
        | nil => simp [leV]
        | cons a l ih => simp only [List.map_cons, leV]; have : (0 : Int) ≤ Int.ofNat a := Int.natCast_nonneg a; omega
      have h1 := nn xs
      have h2 := nn ms
      have h3 := nn (List.zipWith (· &&& ·) xs ms)
      simp only [List.map_cons, leV, List.zipWith_cons_cons]
      have e1 : (Int.ofNat x + 256 * leV (xs.map Int.ofNat)).toNat = x + 256 * (leV (xs.map Int.ofNat)).toNat := by
        have : Int.ofNat x = (x : Int) := rfl
        omega
      have e2 : (Int.ofNat m + 256 * leV (ms.map Int.ofNat)).toNat = m + 256 * (leV (ms.map Int.ofNat)).toNat := by
        have : Int.ofNat m = (m : Int) := rfl
        omega
      have e3 : (Int.ofNat (x &&& m) + 256 * leV ((List.zipWith (· &&& ·) xs ms).map Int.ofNat)).toNat = (x &&& m) + 256 * (leV ((List.zipWith (· &&& ·) xs ms).map Int.ofNat)).toNat := by
        have : Int.ofNat (x &&& m) = ((x &&& m : Nat) : Int) := rfl
        omega
      rw [e1, e2, e3, land_mul x _ m _ 256 8 rfl (hx x (by simp)) (hm m (by simp)), ih2]
theorem byte_and255 (x : Nat) (h : x < 256) : x &&& 255 = x := by
  rw [show (255 : Nat) = 2 ^ 8 - 1 from rfl, Nat.and_two_pow_sub_one_eq_mod]; omega
theorem byte_and15 (x : Nat) (_h : x < 256) : x &&& 15 = x % 16 := by
  rw [show (15 : Nat) = 2 ^ 4 - 1 from rfl, Nat.and_two_pow_sub_one_eq_mod]
theorem byte_and252 : ∀ x : Fin 256, x.val &&& 252 = x.val / 4 * 4 := by decide +kernel
theorem and_of {X M R : Int} (h1 : 0 ≤ X) (h2 : X < 18446744073709551616) (h3 : 0 ≤ M) (h4 : M < 18446744073709551616) (h5 : 0 ≤ R) (key : X.toNat &&& M.toNat = R.toNat) : bits .and .u64 X M = R := by
  have h := u64_and_nat X.toNat M.toNat (by omega) (by omega)
  rw [Int.toNat_of_nonneg h1, Int.toNat_of_nonneg h3, key, Int.toNat_of_nonneg h5] at h
  exact h
/-- A word and its mask. -/
theorem word_and (x0 x1 x2 x3 x4 x5 x6 x7 : Int) (m0 m4 : Nat) (hm : m0 = 255 ∨ m0 = 252) (hm4 : m4 = 252) (h : IsB [x0, x1, x2, x3, x4, x5, x6, x7]) :
    bits .and .u64 (leV [x0, x1, x2, x3, x4, x5, x6, x7]) ((leV ([m0, 255, 255, 15, m4, 255, 255, 15].map Int.ofNat))) = leV [if m0 = 255 then x0 else x0 / 4 * 4, x1, x2, x3 % 16, x4 / 4 * 4, x5, x6, x7 % 16] := by
  obtain ⟨y0, rfl⟩ := Int.eq_ofNat_of_zero_le (h x0 (by simp)).1
  obtain ⟨y1, rfl⟩ := Int.eq_ofNat_of_zero_le (h x1 (by simp)).1
  obtain ⟨y2, rfl⟩ := Int.eq_ofNat_of_zero_le (h x2 (by simp)).1
  obtain ⟨y3, rfl⟩ := Int.eq_ofNat_of_zero_le (h x3 (by simp)).1
  obtain ⟨y4, rfl⟩ := Int.eq_ofNat_of_zero_le (h x4 (by simp)).1
  obtain ⟨y5, rfl⟩ := Int.eq_ofNat_of_zero_le (h x5 (by simp)).1
  obtain ⟨y6, rfl⟩ := Int.eq_ofNat_of_zero_le (h x6 (by simp)).1
  obtain ⟨y7, rfl⟩ := Int.eq_ofNat_of_zero_le (h x7 (by simp)).1
  have b0 := (h y0 (by simp)).2
  have b1 := (h y1 (by simp)).2
  have b2 := (h y2 (by simp)).2
  have b3 := (h y3 (by simp)).2
  have b4 := (h y4 (by simp)).2
  have b5 := (h y5 (by simp)).2
  have b6 := (h y6 (by simp)).2
  have b7 := (h y7 (by simp)).2
  have key := and_bytes [y0, y1, y2, y3, y4, y5, y6, y7] [m0, 255, 255, 15, m4, 255, 255, 15] rfl (by intro x hx; simp at hx; omega) (by intro x hx; simp at hx; omega)
  have e0 : y0 &&& m0 = if m0 = 255 then y0 else y0 / 4 * 4 := by
    rcases hm with rfl | rfl
    · rw [if_pos rfl]; exact byte_and255 y0 (by omega)
    · rw [if_neg (by decide)]; exact byte_and252 ⟨y0, by omega⟩
  subst hm4
  have e4 : y4 &&& 252 = y4 / 4 * 4 := byte_and252 ⟨y4, by omega⟩
  simp only [List.zipWith_cons_cons, List.zipWith_nil_left, e0, e4, byte_and255 y1 (by omega), byte_and255 y2 (by omega), byte_and15 y3 (by omega), byte_and255 y5 (by omega), byte_and255 y6 (by omega), byte_and15 y7 (by omega)] at key
  rcases hm with rfl | rfl
  · refine and_of ?_ ?_ ?_ ?_ ?_ (key.trans ?_)
    all_goals (try (simp only [List.map_cons, List.map_nil, leV, if_true, Int.ofNat_eq_natCast]; omega))
  · refine and_of ?_ ?_ ?_ ?_ ?_ (key.trans ?_)
    all_goals (try (simp only [List.map_cons, List.map_nil, leV, show ((252 : Nat) = 255) = False by simp, if_false, Int.ofNat_eq_natCast]; omega))
theorem leN8 (xs : List Int) (a : Nat) : leN xs a 8 = leV [xs.getD a 0, xs.getD (a + 1) 0, xs.getD (a + 2) 0, xs.getD (a + 3) 0, xs.getD (a + 4) 0, xs.getD (a + 5) 0, xs.getD (a + 6) 0, xs.getD (a + 7) 0] := by
  have e0 : (256 : Int) ^ 0 = 1 := by decide
  have e1 : (256 : Int) ^ 1 = 256 := by decide
  have e2 : (256 : Int) ^ 2 = 65536 := by decide
  have e3 : (256 : Int) ^ 3 = 16777216 := by decide
  have e4 : (256 : Int) ^ 4 = 4294967296 := by decide
  have e5 : (256 : Int) ^ 5 = 1099511627776 := by decide
  have e6 : (256 : Int) ^ 6 = 281474976710656 := by decide
  have e7 : (256 : Int) ^ 7 = 72057594037927936 := by decide
  simp only [leN, leV, e0, e1, e2, e3, e4, e5, e6, e7, Nat.add_zero]
  omega
theorem clampL_parts (key : List Int) : clampL key = [key.getD 0 0, key.getD 1 0, key.getD 2 0, key.getD 3 0 % 16, key.getD 4 0 / 4 * 4, key.getD 5 0, key.getD 6 0, key.getD 7 0 % 16] ++ [key.getD 8 0 / 4 * 4, key.getD 9 0, key.getD 10 0, key.getD 11 0 % 16, key.getD 12 0 / 4 * 4, key.getD 13 0, key.getD 14 0, key.getD 15 0 % 16] := rfl
theorem key8 {key : List Int} (hk : IsB key) (a : Nat) : IsB [key.getD a 0, key.getD (a + 1) 0, key.getD (a + 2) 0, key.getD (a + 3) 0, key.getD (a + 4) 0, key.getD (a + 5) 0, key.getD (a + 6) 0, key.getD (a + 7) 0] := by
  intro z hz
  simp only [List.mem_cons, List.not_mem_nil, or_false] at hz
  rcases hz with rfl | rfl | rfl | rfl | rfl | rfl | rfl | rfl <;> exact hk.at_ _
theorem and_r0 {key : List Int} (hk : IsB key) : bits .and .u64 (leN key 0 8) 1152921487695413247 = leV [key.getD 0 0, key.getD 1 0, key.getD 2 0, key.getD 3 0 % 16, key.getD 4 0 / 4 * 4, key.getD 5 0, key.getD 6 0, key.getD 7 0 % 16] := by
  rw [leN8]
  exact word_and _ _ _ _ _ _ _ _ 255 252 (.inl rfl) rfl (key8 hk 0)
theorem and_r1 {key : List Int} (hk : IsB key) : bits .and .u64 (leN key 8 8) 1152921487695413244 = leV [key.getD 8 0 / 4 * 4, key.getD 9 0, key.getD 10 0, key.getD 11 0 % 16, key.getD 12 0 / 4 * 4, key.getD 13 0, key.getD 14 0, key.getD 15 0 % 16] := by
  rw [leN8]
  exact word_and _ _ _ _ _ _ _ _ 252 252 (.inr rfl) rfl (key8 hk 8)
theorem leV8_range {xs : List Int} (h : IsB xs) (hl : xs.length = 8) : IsW1 (leV xs) := by
  have := leV_range h
  rw [hl, show (256 : Int) ^ 8 = 18446744073709551616 by decide] at this
  unfold IsW1
  omega
theorem r_val {key : List Int} (hk : IsB key) : ∃ r0 r1, bits .and .u64 (leN key 0 8) 1152921487695413247 = r0 ∧ bits .and .u64 (leN key 8 8) 1152921487695413244 = r1 ∧ (IsW1 r0 ∧ IsW1 r1) ∧ leW [r0, r1] = leV (clampL key) := by
  refine ⟨_, _, and_r0 hk, and_r1 hk, ⟨?_, ?_⟩, ?_⟩
  · refine leV8_range (fun z hz => clampL_isB hk z ?_) rfl
    rw [clampL_parts]; exact List.mem_append_left _ hz
  · refine leV8_range (fun z hz => clampL_isB hk z ?_) rfl
    rw [clampL_parts]; exact List.mem_append_right _ hz
  · rw [clampL_parts, leV_append]
    simp only [leW, Int.mul_zero, Int.add_zero]
    have e8 : (256 : Int) ^ 8 = 18446744073709551616 := by decide
    simp only [List.length_cons, List.length_nil, Nat.zero_add, Nat.reduceAdd, e8]
theorem s_val {key : List Int} (hk : IsB key) (hl : key.length = 32) : IsW [leN key 16 8, leN key 24 8, 0] ∧ leW [leN key 16 8, leN key 24 8, 0] = leV ((key.drop 16).take 16) := by
  have r1 := leN_range hk 16 8
  have r2 := leN_range hk 24 8
  rw [show (256 : Int) ^ 8 = 18446744073709551616 by decide] at r1 r2
  refine ⟨fun z hz => by simp at hz; omega, ?_⟩
  have h1 := leN_add key 16 8 8
  have h2 := leN_eq key 16 16
  rw [hl, List.replicate_zero, List.append_nil] at h2
  simp only [Nat.reduceAdd] at h1
  rw [← h2, h1, show (256 : Int) ^ 8 = 18446744073709551616 by decide]
  simp only [leW, Int.mul_zero, Int.add_zero]

set_option maxRecDepth 100000 in
set_option maxHeartbeats 4000000 in
theorem new_any (w : World) (key : List Int) (hk : key.length = 32) (hkb : IsB key) : Calls Try.prog 14 #[.agg (bs key).toArray] w fun e w' => ∃ g, e = .returned (.pointer (some ⟨g, 0, none⟩)) ∧ w.heap.size ≤ g ∧ Mac w' g key [] (fun _ => False) ∧ Below w.heap.size w w' := by
  obtain ⟨r0, r1, hr0, hr1, hrr, hrv⟩ := r_val hkb
  obtain ⟨hsw, hsv⟩ := s_val hkb hk
  obtain ⟨t0, ht0⟩ : ∃ t, leN key 16 8 = t := ⟨_, rfl⟩
  obtain ⟨t1, ht1⟩ : ∃ t, leN key 24 8 = t := ⟨_, rfl⟩
  rw [ht0, ht1] at hsw hsv
  obtain ⟨n0, hn0⟩ : ∃ n, leN key 0 8 = n := ⟨_, rfl⟩
  obtain ⟨n1, hn1⟩ : ∃ n, leN key 8 8 = n := ⟨_, rfl⟩
  rw [hn0] at hr0
  rw [hn1] at hr1
  obtain ⟨B, hB⟩ : ∃ B, w.heap.size = B := ⟨_, rfl⟩
  have HK := Lib.hid hk
  have HKB := Lib.hid hkb
  have HRR := Lib.hid (fun _ : Unit => (⟨hrr, hrv, hsw, hsv⟩ : (IsW1 r0 ∧ IsW1 r1) ∧ leW [r0, r1] = leV (clampL key) ∧ IsW [t0, t1, 0] ∧ leW [t0, t1, 0] = leV ((key.drop 16).take 16)))
  have L0 := Lib.hid (fun v w hr => by have := le64_any v key 0 w hr hkb (by decide) (by decide); rwa [show (0 : Int).toNat = 0 from rfl, hn0] at this)
  have L1 := Lib.hid (fun v w hr => by have := le64_any v key 8 w hr hkb (by decide) (by decide); rwa [show (8 : Int).toNat = 8 from rfl, hn1] at this)
  have L2 := Lib.hid (fun v w hr => by have := le64_any v key 16 w hr hkb (by decide) (by decide); rwa [show (16 : Int).toNat = 16 from rfl, ht0] at this)
  have L3 := Lib.hid (fun v w hr => by have := le64_any v key 24 w hr hkb (by decide) (by decide); rwa [show (24 : Int).toNat = 24 from rfl, ht1] at this)
  clear hk hkb hrr hrv hsw hsv ht0 ht1 hn0 hn1
  have s32 := fun w => slice32 w B
  go_enter Try.func14, Try.ntmps14
  go_upto_region 2 with fail
  have b0 : Blk ((w.alloc (.cells (bs key).toArray 29)).alloc (.cells (macC (.slice none 0 0) 0 0 0 0 0 0 0 0 true).toArray 51)) B (bs key) 29 := (Blk.mk_ _ hB.symm rfl).al _
  have b1 : Blk ((w.alloc (.cells (bs key).toArray 29)).alloc (.cells (macC (.slice none 0 0) 0 0 0 0 0 0 0 0 true).toArray 51)) (B + 1) (macC (.slice none 0 0) 0 0 0 0 0 0 0 0 true) 51 := Blk.mk_ _ (by simp [hB]) rfl
  have bb : Below B w ((w.alloc (.cells (bs key).toArray 29)).alloc (.cells (macC (.slice none 0 0) 0 0 0 0 0 0 0 0 true).toArray 51)) := bw_al (bw_al (Below.refl _ _) (by omega) _) (by simp; omega) _
  change Code.wp _ _ _ _ ((w.alloc (.cells (bs key).toArray 29)).alloc (.cells (macC (.slice none 0 0) 0 0 0 0 0 0 0 0 true).toArray 51))
  generalize ((w.alloc (.cells (bs key).toArray 29)).alloc (.cells (macC (.slice none 0 0) 0 0 0 0 0 0 0 0 true).toArray 51)) = w1 at *
  have hr0' : Rd w1 (.slice (some ⟨B, 0, none⟩) 32 32) (bs key) := by
    have := Rd.of_blk b0 (by rw [bs_len, HK.out]; decide); rwa [bs_len, HK.out] at this
  have C0 := Lib.hid (L0.out _ _ (show Rd w1.drew (.slice (some ⟨B, 0, none⟩) 32 32) (bs key) from hr0'))
  have m1 := b1.at_ 1 rfl
  have f1 := b1.free 1
  refine region_plan ⟨[0, 0, 2, 6, 1, 17, 63, 127], [2, 7], [0, 0, 0, 1, 0, 0, 1, 1]⟩
    [⟨[0, 1, 4, 5], [1, 4, 5], some 2⟩, ⟨[3, 6], [3, 4, 5, 6], some 7⟩, ⟨[], [], none⟩] 29 (by kernel_rfl) (by kernel_rfl) (by kernel_rfl) (by kernel_rfl) rfl ?_
  simp only [SeqGo, opsAt_cons, opsAt_nil, List.getElem?_cons, Option.toList_some, List.singleton_append, ↓reduceIte, Nat.reduceEqDiff, Nat.reduceSub]
  go_wp2_with fail
  refine ⟨by (simp only [Sames, Same]; go_simp), ?_⟩
  go_wp2_with (go_at_call 24; refine C0.out.mono ?_; rintro e w4 ⟨rfl, hw4⟩; subst hw4)
  refine ⟨by (simp only [Sames, Same]; go_simp), ?_⟩
  go_wp2_with fail
  refine ⟨trivial, ?_⟩
  go_upto_region 3 with fail
  have b2 := (b1.set 1 (.int .u64 r0)).d1
  have k2 : Blk (w1.setCell ⟨B + 1, 1, none⟩ (.int .u64 r0)).drew B (bs key) 29 := (b0.other (a := ⟨B + 1, 1, none⟩) (by show B ≠ B + 1; omega) _).d1
  have bb2 : Below B w (w1.setCell ⟨B + 1, 1, none⟩ (.int .u64 r0)).drew := bw_d1 (bb.setCell (p := ⟨B + 1, 1, none⟩) (by show B ≤ B + 1; omega) _)
  generalize (w1.setCell ⟨B + 1, 1, none⟩ (.int .u64 r0)).drew = w2 at *
  have hr2 : Rd w2 (.slice (some ⟨B, 0, none⟩) 32 32) (bs key) := by
    have := Rd.of_blk k2 (by rw [bs_len, HK.out]; decide); rwa [bs_len, HK.out] at this
  have C1 := Lib.hid (L1.out _ _ (show Rd w2.drew (.slice (some ⟨B, 0, none⟩) 32 32) (bs key) from hr2))
  clear m1 f1 b0 b1 bb hr0' hr2
  have m2 := b2.at_ 2 rfl
  have f2 := b2.free 2
  refine region_plan ⟨[0, 0, 2, 6, 1, 17, 63, 127], [2, 7], [0, 0, 0, 1, 0, 0, 1, 1]⟩
    [⟨[0, 1, 4, 5], [1, 4, 5], some 2⟩, ⟨[3, 6], [3, 4, 5, 6], some 7⟩, ⟨[], [], none⟩] 29 (by kernel_rfl) (by kernel_rfl) (by kernel_rfl) (by kernel_rfl) rfl ?_
  simp only [SeqGo, opsAt_cons, opsAt_nil, List.getElem?_cons, Option.toList_some, List.singleton_append, ↓reduceIte, Nat.reduceEqDiff, Nat.reduceSub]
  go_wp2_with fail
  refine ⟨by (simp only [Sames, Same]; go_simp), ?_⟩
  go_wp2_with (go_at_call 24; refine C1.out.mono ?_; rintro e w4 ⟨rfl, hw4⟩; subst hw4)
  refine ⟨by (simp only [Sames, Same]; go_simp), ?_⟩
  go_wp2_with fail
  refine ⟨trivial, ?_⟩
  go_upto_region 4 with fail
  have b3 := (b2.set 2 (.int .u64 r1)).d1
  have k3 : Blk (w2.setCell ⟨B + 1, 2, none⟩ (.int .u64 r1)).drew B (bs key) 29 := (k2.other (a := ⟨B + 1, 2, none⟩) (by show B ≠ B + 1; omega) _).d1
  have bb3 : Below B w (w2.setCell ⟨B + 1, 2, none⟩ (.int .u64 r1)).drew := bw_d1 (bb2.setCell (p := ⟨B + 1, 2, none⟩) (by show B ≤ B + 1; omega) _)
  generalize (w2.setCell ⟨B + 1, 2, none⟩ (.int .u64 r1)).drew = w3 at *
  have hr3 : Rd w3 (.slice (some ⟨B, 0, none⟩) 32 32) (bs key) := by
    have := Rd.of_blk k3 (by rw [bs_len, HK.out]; decide); rwa [bs_len, HK.out] at this
  have C2 := Lib.hid (L2.out _ _ (show Rd w3.drew (.slice (some ⟨B, 0, none⟩) 32 32) (bs key) from hr3))
  have C3 := Lib.hid (L3.out _ _ (show Rd w3.drew (.slice (some ⟨B, 0, none⟩) 32 32) (bs key) from hr3))
  have B3 := Lib.hid b3.d1
  have m3 := b3.at_ 3 rfl
  clear m2 f2 b2 k2 bb2 hr3
  refine region_plan ⟨[0, 0, 2, 0, 14, 30, 63, 127, 255], [2, 4, 8], [0, 0, 0, 0, 1, 2, 2, 2, 2]⟩
    [⟨[0, 1, 3], [1, 3], some 2⟩, ⟨[], [3], some 4⟩, ⟨[5, 6, 7], [5, 6, 7], some 8⟩, ⟨[], [], none⟩] 29 (by kernel_rfl) (by kernel_rfl) (by kernel_rfl) (by kernel_rfl) rfl ?_
  simp only [SeqGo, opsAt_cons, opsAt_nil, List.getElem?_cons, Option.toList_some, List.singleton_append, ↓reduceIte, Nat.reduceEqDiff, Nat.reduceSub]
  go_wp2_with fail
  refine ⟨by (simp only [Sames, Same]; go_simp), ?_⟩
  go_wp2_with (go_at_call 24; refine C2.out.mono ?_; rintro e w4 ⟨rfl, hw4⟩; subst hw4)
  refine ⟨by (simp only [Sames, Same]; go_simp), ?_⟩
  go_wp2_with (go_at_call 24; refine C3.out.mono ?_; rintro e w4 ⟨rfl, hw4⟩; subst hw4)
  refine ⟨by (simp only [Sames, Same]; go_simp), ?_⟩
  go_wp2_with (refine wp_store_sub rfl 49 (.tmp 27) (.tmp 25) rfl rfl (ys := uq [t0, t1, 0]) rfl B3.out (uq_one _) (by show 3 + 3 ≤ 10; decide) (n := 3) (by kernel_rfl) rfl ?_; intro w5 hbx hon)
  refine ⟨trivial, ?_⟩
  go_wp2_with fail
  all_goals go_ret
  obtain ⟨q1, q2, q3, q4⟩ := HRR.out ()
  refine ⟨B + 1, rfl, by omega, ⟨.slice none 0 0, r0, r1, t0, t1, 0, 0, 0, 0, ⟨hbx, Part.nil _ _ _, q1, q2, q3, q4, ⟨rfl, ?_, by decide, rfl⟩⟩, fun b ⟨_, _, _, h⟩ => by cases h⟩, by rw [hB]; exact hon.below (bw_d1 bb3) (by omega)⟩
  intro z hz
  simp at hz
  omega
end Go.Proofs.Ytmjjnaaiakchhaa
