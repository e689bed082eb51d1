/-
  intaglioref03.Add: two numbers of sixteen bytes, added modulo 2^128. And rows of bytes that are changed byte by byte.
-/
import Derived.Test.YtmjjnaaiakchhaaPolyV
import Derived.Test.YtmjjnaaiakchhaaSeq
import Derived.Test.YtmjjnaaiakchhaaMacSum
namespace Go.Proofs.Ytmjjnaaiakchhaa
open Go.RowKit

theorem lowN_mod (x : Int) (n : Nat) (h : 0 ≤ x) : lowN (x % 256 ^ n) n = lowN x n := by
  have h2 : (0 : Int) < 256 ^ n := Int.pow_pos (by decide)
  have h1 : 0 ≤ x % 256 ^ n := Int.emod_nonneg _ (by omega)
  refine leV_inj (lowN_isB _ _) (lowN_isB _ _) (by rw [lowN_len, lowN_len]) ?_
  rw [leV_lowN _ _ h, leV_lowN _ _ h1, Int.emod_emod_of_dvd _ (Int.dvd_refl _)]
theorem lowN_add (x y : Int) (n : Nat) (hx : 0 ≤ x) (hy : 0 ≤ y) : lowN (leV (lowN x n) + y) n = lowN (x + y) n := by
  have h2 : (0 : Int) < 256 ^ n := Int.pow_pos (by decide)
  rw [leV_lowN _ _ hx, ← lowN_mod (x + y) n (by omega), ← lowN_mod (x % 256 ^ n + y) n (by have := Int.emod_nonneg x (show (256 : Int) ^ n ≠ 0 by omega); omega), Int.emod_add_emod]

set_option maxRecDepth 100000 in
set_option maxHeartbeats 2000000 in
theorem add03_any (w : World) (xs ys : List Int) (hx : xs.length = 16) (hy : ys.length = 16) (hxb : IsB xs) (hyb : IsB ys) :
    Calls Try.prog 19 #[.agg (bs xs).toArray, .agg (bs ys).toArray] w fun e w' => e = .returned (.agg (bs (lowN (leV xs + leV ys) 16)).toArray) ∧ Below w.heap.size w w' := by
  have HX := Lib.hid hx
  have HY := Lib.hid hy
  have HXB := Lib.hid hxb
  have HYB := Lib.hid hyb
  have rx := leV_range hxb
  have ry := leV_range hyb
  rw [hx, show (256 : Int) ^ 16 = 340282366920938463463374607431768211456 by decide] at rx
  rw [hy, show (256 : Int) ^ 16 = 340282366920938463463374607431768211456 by decide] at ry
  have HS := Lib.hid (show leV xs + leV ys < big40 from by unfold big40; omega)
  have HP := Lib.hid (show 0 ≤ leV xs ∧ 0 ≤ leV ys from ⟨rx.1, ry.1⟩)
  clear hx hy hxb hyb rx ry
  obtain ⟨B, hB⟩ : ∃ B, w.heap.size = B := ⟨_, rfl⟩
  go_enter Try.func19, Try.ntmps19
  go_upto_region 1 with fail
  change Code.wp _ _ _ _ (((w.alloc (.cells (bs xs).toArray 35)).alloc (.cells (bs ys).toArray 35)).alloc (.cells (bs (List.replicate 16 0)).toArray 35))
  have b0 : Blk (((w.alloc (.cells (bs xs).toArray 35)).alloc (.cells (bs ys).toArray 35)).alloc (.cells (bs (List.replicate 16 0)).toArray 35)) B (bs xs) 35 := ((Blk.mk_ _ hB.symm rfl).al _).al _
  have b1 : Blk (((w.alloc (.cells (bs xs).toArray 35)).alloc (.cells (bs ys).toArray 35)).alloc (.cells (bs (List.replicate 16 0)).toArray 35)) (B + 1) (bs ys) 35 := (Blk.mk_ _ (by simp [hB]) rfl).al _
  have b2 : Blk (((w.alloc (.cells (bs xs).toArray 35)).alloc (.cells (bs ys).toArray 35)).alloc (.cells (bs (List.replicate 16 0)).toArray 35)) (B + 2) (bs (List.replicate 16 0)) 35 := Blk.mk_ _ (by simp [hB]) rfl
  have bb : Below B w (((w.alloc (.cells (bs xs).toArray 35)).alloc (.cells (bs ys).toArray 35)).alloc (.cells (bs (List.replicate 16 0)).toArray 35)) := bw_al (bw_al (bw_al (Below.refl _ _) (by omega) _) (by simp; omega) _) (by simp; omega) _
  generalize (((w.alloc (.cells (bs xs).toArray 35)).alloc (.cells (bs ys).toArray 35)).alloc (.cells (bs (List.replicate 16 0)).toArray 35)) = w1 at *
  have hs0 := slice16 w1.drew B
  have hs1 := fun w' => slice16 w' (B + 1)
  have r0 : Rd w1 (.slice (some ⟨B, 0, none⟩) 16 16) (bs xs) := by
    have := Rd.of_blk b0 (by rw [bs_len, HX.out]; decide); rwa [bs_len, HX.out] at this
  have r1 : Rd w1 (.slice (some ⟨B + 1, 0, none⟩) 16 16) (bs ys) := by
    have := Rd.of_blk b1 (by rw [bs_len, HY.out]; decide); rwa [bs_len, HY.out] at this
  have R0 := Lib.hid r0
  have R1 := Lib.hid r1
  have B2 := Lib.hid b2
  have BB := Lib.hid bb
  have hlt16 : ∀ ys : List Int, ys.length = 40 → (bs (ys.take 16)).length = 16 := fun ys hy => by rw [bs_len, List.length_take, hy]; rfl
  clear r0 r1 b0 b1 b2 bb
  have hbl0 : Below w1.heap.size w1 w1.drew := bw_d1 (Below.refl _ _)
  refine region_plan ⟨[0, 1, 0, 7, 15, 31, 63], [1, 3, 4, 5, 6], [0, 0, 0, 1, 2, 3, 4]⟩
    [⟨[0, 2], [0, 2], some 1⟩, ⟨[], [2], some 3⟩, ⟨[], [], some 4⟩, ⟨[], [], some 5⟩, ⟨[], [], some 6⟩, ⟨[], [], none⟩] 11 (by kernel_rfl) (by kernel_rfl) (by kernel_rfl) (by kernel_rfl) rfl ?_
  simp only [SeqGo, opsAt_cons, opsAt_nil, List.getElem?_cons, Option.toList_some, List.singleton_append, ↓reduceIte, Nat.reduceEqDiff, Nat.reduceSub]
  go_wp2_with fail
  refine ⟨by (simp only [Sames, Same]; go_simp), ?_⟩
  go_wp2_with (go_at_call 31; refine (number_any _ _ xs (R0.out.stay hbl0 (Nat.le_refl _)) HXB.out (by rw [HX.out]; decide)).mono ?_; rintro e w7 ⟨v7, y7, rfl, hn7, hv7, hb7⟩; have HN7 := Lib.hid hn7; have HV7 := Lib.hid (fun _ : Unit => hv7); have hbl7 : Below w1.heap.size w1 w7 := bw_then hbl0 hb7 hbl0.size; clear hn7 hv7)
  refine ⟨by (simp only [Sames, Same]; go_simp), ?_⟩
  go_wp2_with (go_at_call 31; refine (number_any _ _ ys (R1.out.stay hbl7 (Nat.le_refl _)) HYB.out (by rw [HY.out]; decide)).mono ?_; rintro e w8 ⟨v8, y8, rfl, hn8, hv8, hb8⟩; have HN8 := Lib.hid hn8; have HV8 := Lib.hid (fun _ : Unit => hv8); have hbl8 : Below w1.heap.size w1 w8 := bw_then hbl7 hb8 hbl7.size; clear hn8 hv8)
  refine ⟨trivial, ?_⟩
  go_wp2_with (go_at_call 35; refine (plus_any w8 _ _ y7 y8 (HN7.out.stay hb8) HN8.out (by rw [HV7.out (), HV8.out ()]; exact HS.out)).mono ?_; rintro e w9 ⟨v9, y9, rfl, hn9, hv9, hb9⟩; have HN9 := Lib.hid hn9; have HV9 := Lib.hid (fun _ : Unit => hv9); have hbl9 : Below w1.heap.size w1 w9 := bw_then hbl8 hb9 hbl8.size; clear hn9 hv9)
  refine ⟨trivial, ?_⟩
  go_wp2_with (go_at_call 36; refine (bytes16_any w9 _ y9 HN9.out).mono ?_; rintro e w10 ⟨rfl, hb10⟩; have hbl10 : Below w1.heap.size w1 w10 := bw_then hbl9 hb10 hbl9.size)
  refine ⟨trivial, ?_⟩
  go_wp2_with (refine wp_store_blk rfl 35 (.tmp 4) (.tmp 10) rfl rfl rfl (B2.out.stay hbl10) (bs_one _) (by rw [hlt16 _ HN9.out.len]; rfl) (n := 16) (by kernel_rfl) (hlt16 _ HN9.out.len) ?_; intro w' hbx hon)
  refine ⟨trivial, ?_⟩
  go_wp2_with fail
  refine ret_blk rfl rfl hbx Try.underlying35 rfl (n := 16) (by kernel_rfl) (hlt16 _ HN9.out.len) rfl ?_
  refine ⟨?_, by rw [hB]; exact hon.below (bw_then BB.out hbl10 (by have := B2.out.lt; omega)) (by omega)⟩
  rw [take_low HN9.out.isB 16 (by rw [HN9.out.len]; decide), HV9.out (), HV8.out (), HV7.out ()]

/-- Bytes given one by one. -/
def rowF (n : Nat) (f : Nat → Int) : List Int := (List.range n).map f
theorem rowF_len (n : Nat) (f : Nat → Int) : (rowF n f).length = n := by simp [rowF]
theorem rowF_get (n : Nat) (f : Nat → Int) (i : Nat) (h : i < n) : (rowF n f).getD i 0 = f i := by simp [rowF, List.getD_eq_getElem?_getD, h]
theorem rowF_congr {n : Nat} {f g : Nat → Int} (h : ∀ i, i < n → f i = g i) : rowF n f = rowF n g := by
  refine List.map_congr_left fun i hi => h i (by simpa using hi)
theorem rowF_set (n : Nat) (f : Nat → Int) (i : Nat) (x : Int) : (rowF n f).set i x = rowF n (fun j => if j = i then x else f j) := by
  apply List.ext_getElem?
  intro j
  rw [List.getElem?_set]
  simp only [rowF, List.length_map, List.length_range, List.getElem?_map]
  by_cases h : i = j
  · subst h
    by_cases h2 : i < n <;> simp [h2]
  · rw [if_neg h]
    by_cases h2 : j < n
    · simp [h2, Ne.symm h]
    · simp [h2]
theorem rowF_self (xs : List Int) : rowF xs.length (fun i => xs.getD i 0) = xs := by
  apply List.ext_getElem?
  intro j
  simp only [rowF, List.getElem?_map]
  by_cases h : j < xs.length <;> simp [h, List.getD_eq_getElem?_getD]
theorem rowF_isB {n : Nat} {f : Nat → Int} (h : ∀ i, i < n → 0 ≤ f i ∧ f i ≤ 255) : IsB (rowF n f) := fun z hz => by
  obtain ⟨i, hi, rfl⟩ := List.mem_map.1 hz
  exact h i (by simpa using hi)
theorem rowF_drop (n k : Nat) (f : Nat → Int) : (rowF n f).drop k = rowF (n - k) (fun i => f (k + i)) := by
  apply List.ext_getElem?
  intro j
  simp only [rowF, List.getElem?_drop, List.getElem?_map]
  by_cases h : k + j < n
  · rw [List.getElem?_range h, List.getElem?_range (show j < n - k by omega)]; rfl
  · rw [List.getElem?_eq_none (by simp; omega), List.getElem?_eq_none (by simp; omega)]; rfl
/-- What counts of two keys. -/
theorem clampL_congr {a b : List Int} (h : ∀ i, i < 16 → (if i % 4 = 3 then a.getD i 0 % 16 else if 0 < i ∧ i % 4 = 0 then a.getD i 0 / 4 * 4 else a.getD i 0) = if i % 4 = 3 then b.getD i 0 % 16 else if 0 < i ∧ i % 4 = 0 then b.getD i 0 / 4 * 4 else b.getD i 0) : clampL a = clampL b :=
  List.map_congr_left fun i hi => h i (by simpa using hi)

/-! ### A Mac that no call made, or none -/
/-- No Mac, or one that is off. -/
def Dead (w : World) (p : Option Addr) : Prop := p = none ∨ ∃ g, p = some ⟨g, 0, none⟩ ∧ w.cell? ⟨g, 9, none⟩ = some (.bool false)
theorem Dead.stay {w w' : World} {p : Option Addr} (h : Dead w p) (hb : Below w.heap.size w w') : Dead w' p := h.imp id fun ⟨g, h1, h2⟩ => ⟨g, h1, cell_stay hb h2⟩

theorem deadwrite_any (w : World) (p : Option Addr) (v : Value) (h : Dead w p) : Calls Try.prog 15 #[.pointer p, v] w fun e w' => e = .returned (.tuple #[]) ∧ w = w' := by
  rcases h with rfl | ⟨g, rfl, h9⟩
  · go_enter Try.func15, Try.ntmps15
    go_wp2_with fail
    exact bodyPost_ret (v := .tuple #[]) (by simp [results, Try.results15, go_sem]) rfl ⟨rfl, rfl⟩
  · go_enter Try.func15, Try.ntmps15
    go_wp2_with fail
    exact bodyPost_ret (v := .tuple #[]) (by simp [results, Try.results15, go_sem]) rfl ⟨rfl, rfl⟩

set_option maxRecDepth 100000 in
set_option maxHeartbeats 1000000 in
theorem deadsum_any (w : World) (p : Option Addr) (h : Dead w p) : Calls Try.prog 16 #[.pointer p] w fun e w' => e = .returned (.agg (bs (List.replicate 16 0)).toArray) ∧ Below w.heap.size w w' := by
  obtain ⟨B, hB⟩ : ∃ B, w.heap.size = B := ⟨_, rfl⟩
  have H := Lib.hid h
  clear h
  go_enter Try.func16, Try.ntmps16
  go_upto_region 2 with fail
  change Code.wp _ _ _ _ ((w.alloc (.cells (bs (List.replicate 16 0)).toArray 35)).alloc (.cells (bs (List.replicate 16 0)).toArray 35))
  have b0 : Blk ((w.alloc (.cells (bs (List.replicate 16 0)).toArray 35)).alloc (.cells (bs (List.replicate 16 0)).toArray 35)) B (bs (List.replicate 16 0)) 35 := (Blk.mk_ _ hB.symm rfl).al _
  have b1 : Blk ((w.alloc (.cells (bs (List.replicate 16 0)).toArray 35)).alloc (.cells (bs (List.replicate 16 0)).toArray 35)) (B + 1) (bs (List.replicate 16 0)) 35 := Blk.mk_ _ (by simp [hB]) rfl
  have bb : Below B w ((w.alloc (.cells (bs (List.replicate 16 0)).toArray 35)).alloc (.cells (bs (List.replicate 16 0)).toArray 35)) := bw_al (bw_al (Below.refl _ _) (by omega) _) (by simp; omega) _
  have h1 := (H.out.stay (by rw [hB]; exact bb))
  generalize ((w.alloc (.cells (bs (List.replicate 16 0)).toArray 35)).alloc (.cells (bs (List.replicate 16 0)).toArray 35)) = w1 at *
  have hlen : (bs (List.replicate 16 0)).length = 16 := rfl
  generalize hz : List.replicate 16 (0 : Int) = zz at *
  have HZ := Lib.hid (fun _ : Unit => hz)
  clear hz
  have BB := Lib.hid bb
  clear bb H
  rcases h1 with rfl | ⟨g, rfl, h9⟩
  all_goals
    go_wp2_with (first
      | (refine wp_load_blk rfl 35 (.tmp 3) rfl rfl b1 Try.underlying35 rfl (n := 16) (by kernel_rfl) hlen ?_)
      | (refine wp_store_blk rfl 35 (.tmp 2) (.tmp 15) rfl rfl rfl b0 (bs_one _) rfl (n := 16) (by kernel_rfl) hlen ?_; intro w' hbz hon))
    refine ret_blk rfl rfl hbz Try.underlying35 rfl (n := 16) (by kernel_rfl) hlen rfl ?_
    exact ⟨by rw [HZ.out ()], by rw [hB]; exact hon.below BB.out (Nat.le_refl _)⟩
end Go.Proofs.Ytmjjnaaiakchhaa
