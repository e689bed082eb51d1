/-
  The statement PolyClamp: the bits of a key that do not count make no difference.
-/
import Derived.Test.YtmjjnaaiakchhaaAwakeP
import Derived.Test.YtmjjnaaiakchhaaEls
import Derived.Test.YtmjjnaaiakchhaaAdd
namespace Go.Proofs.Ytmjjnaaiakchhaa.lawPolyClamp
open Go.ChangeShapes Go.WideShapes Go.ChangeAt Go.RowKit

/-- Another key that counts as much. -/
structure Cl (key os : List Int) : Prop where
  len : os.length = 32
  isB : IsB os
  eq : ∀ i, i < 16 → (if i % 4 = 3 then os.getD i 0 % 16 else if 0 < i ∧ i % 4 = 0 then os.getD i 0 / 4 * 4 else os.getD i 0) = if i % 4 = 3 then key.getD i 0 % 16 else if 0 < i ∧ i % 4 = 0 then key.getD i 0 / 4 * 4 else key.getD i 0
  rest : os.drop 16 = key.drop 16
theorem Cl.refl {key : List Int} (hk : key.length = 32) (hkb : IsB key) : Cl key key := ⟨hk, hkb, fun _ _ => rfl, rfl⟩
theorem Cl.tag {key os : List Int} (h : Cl key os) (xs : List Int) : tagL os xs = tagL key xs := by
  rw [tagL, tagL, clampL_congr h.eq, h.rest]
theorem getD_set (os : List Int) (k i : Nat) (y : Int) (hk : k < os.length) : (os.set k y).getD i 0 = if i = k then y else os.getD i 0 := by
  simp only [List.getD_eq_getElem?_getD, List.getElem?_set]
  by_cases h : k = i
  · subst h; simp [hk]
  · rw [if_neg h, if_neg (Ne.symm h)]
theorem Cl.step {key os : List Int} (h : Cl key os) {k : Nat} (hk : k < 16) {y : Int} (hy : 0 ≤ y ∧ y ≤ 255) (he : (if k % 4 = 3 then y % 16 else if 0 < k ∧ k % 4 = 0 then y / 4 * 4 else y) = if k % 4 = 3 then key.getD k 0 % 16 else if 0 < k ∧ k % 4 = 0 then key.getD k 0 / 4 * 4 else key.getD k 0) : Cl key (os.set k y) := by
  refine ⟨by rw [List.length_set]; exact h.len, fun z hz => ?_, fun i hi => ?_, ?_⟩
  · rcases List.mem_or_eq_of_mem_set hz with hz | rfl
    · exact h.isB z hz
    · exact hy
  · rw [getD_set _ _ _ _ (by rw [h.len]; omega)]
    by_cases hik : i = k
    · subst hik; rw [if_pos rfl]; exact he
    · rw [if_neg hik]; exact h.eq i hi
  · rw [List.drop_set_of_lt (by omega), h.rest]
theorem onlyD {b : Nat} {w w' : World} (h : Only b w w') : Only b w w'.drew := ⟨h.os, h.tape, h.output, h.size, h.block⟩
theorem and240 : ∀ x : Fin 256, x.val &&& 240 = 16 * (x.val / 16) := by decide +kernel
theorem and3 (x : Nat) : x &&& 3 = x % 4 := Nat.and_two_pow_sub_one_eq_mod x 2
theorem turn_hi (x b : Int) (hx : 0 ≤ x ∧ x ≤ 255) (hb : 0 ≤ b ∧ b ≤ 255) : ∃ y, bits .xor .u8 x (bits .and .u8 b 240) = y ∧ (0 ≤ y ∧ y ≤ 255) ∧ y % 16 = x % 16 := by
  obtain ⟨X, rfl⟩ := Int.eq_ofNat_of_zero_le hx.1
  obtain ⟨Y, rfl⟩ := Int.eq_ofNat_of_zero_le hb.1
  have h1 := u8_and_nat Y 240 (by omega) (by decide)
  have h2 : Y &&& 240 = 16 * (Y / 16) := and240 ⟨Y, by omega⟩
  rw [show ((240 : Nat) : Int) = 240 from rfl, h2] at h1
  have hlt : 16 * (Y / 16) < 256 := by omega
  have h3 := u8_xor_nat X (16 * (Y / 16)) (by omega) hlt
  have h4 : (X ^^^ (16 * (Y / 16))) % 16 = X % 16 := by
    have := Nat.xor_mod_two_pow (a := X) (b := 16 * (Y / 16)) (n := 4)
    rw [show 2 ^ 4 = 16 from rfl, Nat.mul_mod_right, Nat.xor_zero] at this
    exact this
  have h5 : X ^^^ (16 * (Y / 16)) < 2 ^ 8 := Nat.xor_lt_two_pow (by omega) (by omega)
  refine ⟨_, by rw [h1, h3], ⟨by omega, by omega⟩, by omega⟩
theorem turn_lo (x b : Int) (hx : 0 ≤ x ∧ x ≤ 255) (hb : 0 ≤ b ∧ b ≤ 255) : ∃ y, bits .xor .u8 x (bits .and .u8 b 3) = y ∧ (0 ≤ y ∧ y ≤ 255) ∧ y / 4 * 4 = x / 4 * 4 := by
  obtain ⟨X, rfl⟩ := Int.eq_ofNat_of_zero_le hx.1
  obtain ⟨Y, rfl⟩ := Int.eq_ofNat_of_zero_le hb.1
  have h1 := u8_and_nat Y 3 (by omega) (by decide)
  rw [show ((3 : Nat) : Int) = 3 from rfl, and3] at h1
  have h3 := u8_xor_nat X (Y % 4) (by omega) (by omega)
  have h4 : (X ^^^ (Y % 4)) / 4 = X / 4 := by
    have := Nat.shiftRight_xor_distrib (a := X) (b := Y % 4) (i := 2)
    simp only [Nat.shiftRight_eq_div_pow] at this
    rw [show 2 ^ 2 = 4 from rfl, Nat.div_eq_of_lt (show Y % 4 < 4 by omega), Nat.xor_zero] at this
    exact this
  have h5 : X ^^^ (Y % 4) < 2 ^ 8 := Nat.xor_lt_two_pow (by omega) (by omega)
  refine ⟨_, by rw [h1, h3], ⟨by omega, by omega⟩, by omega⟩

set_option maxRecDepth 100000 in
set_option maxHeartbeats 2000000 in
theorem walk (w : World) (key by_ : List Int) (v : Value) (xs : List Int) (hk : key.length = 32) (hl0 : by_.length = 16) (hkb : IsB key) (hyb : IsB by_) (hr : Rd w v (bs xs)) (hb : IsB xs) :
    Calls Try.prog 7 #[.agg (bs key).toArray, .agg (bs by_).toArray, v] w fun e w' => e = .returned (.bool true) ∧ Below w.heap.size w w' := by
  have HK := Lib.hid hk
  have HKB := Lib.hid hkb
  have HY := Lib.hid hl0
  have HYB := Lib.hid hyb
  have HD := Lib.hid hr
  have HX := Lib.hid hb
  have hmx := hr.len
  rw [bs_len] at hmx
  have hlv : ∀ w', (Builtin.len_ #[33] 3 #[v]).run Try.prog w' = .ok (goInt xs.length) w' := by
    have := len_fact (P := Try.prog) hr (t := 33) (ty := 3) (by kernel_rfl)
    rwa [bs_len] at this
  clear hk hkb hb hr hl0 hyb
  obtain ⟨B, hB⟩ : ∃ B, w.heap.size = B := ⟨_, rfl⟩
  go_enter Try.func7, Try.ntmps7
  go_upto_region 1 with fail
  have b1 : Blk ((w.alloc (.cells (bs key).toArray 29)).alloc (.cells (bs by_).toArray 35)) B (bs key) 29 := (Blk.mk_ _ hB.symm rfl).al _
  have b2 : Blk ((w.alloc (.cells (bs key).toArray 29)).alloc (.cells (bs by_).toArray 35)) (B + 1) (bs by_) 35 := Blk.mk_ _ (by simp [hB]) rfl
  have bb : Below B w ((w.alloc (.cells (bs key).toArray 29)).alloc (.cells (bs by_).toArray 35)) := bw_al (bw_al (Below.refl _ _) (by omega) _) (by simp; omega) _
  have hz1 : ((w.alloc (.cells (bs key).toArray 29)).alloc (.cells (bs by_).toArray 35)).heap.size = B + 2 := by simp [hB]
  change Code.wp _ _ _ _ ((w.alloc (.cells (bs key).toArray 29)).alloc (.cells (bs by_).toArray 35))
  generalize (w.alloc (.cells (bs key).toArray 29)).alloc (.cells (bs by_).toArray 35) = w1 at *
  by_cases hl : 1000 < xs.length
  · go_wp2_with (go_at_call 13; refine (awake03_any _).mono ?_; rintro e w' ⟨rfl, hb'⟩)
    all_goals go_ret
    exact ⟨rfl, by rw [hB]; exact bw_then bb hb' (by omega)⟩
  have HLEN := Lib.hid (show (bs key).length = 32 by rw [bs_len, HK.out])
  go_upto_region 4 with (first
    | (refine wp_load_blk rfl 29 (.tmp 3) rfl rfl b1 Try.underlying29 rfl (n := 32) (by kernel_rfl) HLEN.out ?_)
    | (refine wp_store_blk rfl 29 (.tmp 7) (.tmp 13) rfl rfl rfl (cs' := bs key) (Blk.mk_ (cs := bs (List.replicate 32 0)) _ hz1.symm rfl) (bs_one _) (by rw [HLEN.out]; rfl) (n := 32) (by kernel_rfl) HLEN.out ?_; intro w2 b3 on2))
  have I0 := Lib.hid (⟨(b1.al _).only on2 (by omega), (b2.al _).only on2 (by omega), b3, Cl.refl HK.out HKB.out, on2.below (bw_al bb (by omega) _) (by omega)⟩ : Blk w2 B (bs key) 29 ∧ Blk w2 (B + 1) (bs by_) 35 ∧ Blk w2 (B + 2) (bs key) 29 ∧ Cl key key ∧ Below B w w2)
  clear on2 bb hz1 b1 b2 b3
  go_wp2_with fail
  go_loopw [8] (fun x wr => ∃ (k : Nat) (os : List Int), k ≤ 16 ∧ x = .int .i64 k ∧ Blk wr B (bs key) 29 ∧ Blk wr (B + 1) (bs by_) 35 ∧ Blk wr (B + 2) (bs os) 29 ∧ Cl key os ∧ Below B w wr) (fun x _ => 16 - (intOf x).toNat)
  case atStart => exact ⟨0, key, Nat.zero_le _, rfl, I0.out⟩
  case round =>
    obtain ⟨k, os, hk, rfl, c1, c2, c3, cl, cb⟩ := hrel
    obtain ⟨wo, rfl⟩ : ∃ wo : World, wo = wr := ⟨_, rfl⟩
    clear I0
    by_cases hlt : k < 16
    · have HC := Lib.hid (⟨c1, c2, c3, cl, cb⟩ : Blk wo B (bs key) 29 ∧ Blk wo (B + 1) (bs by_) 35 ∧ Blk wo (B + 2) (bs os) 29 ∧ Cl key os ∧ Below B w wo)
      obtain ⟨x, hx⟩ : ∃ x, key.getD k 0 = x := ⟨_, rfl⟩
      obtain ⟨b, hb⟩ : ∃ b, by_.getD k 0 = b := ⟨_, rfl⟩
      have hxr := HKB.out.at_ k
      have hbr := HYB.out.at_ k
      rw [hx] at hxr
      rw [hb] at hbr
      have e1 : wo.cell? ⟨B, k, none⟩ = some (.int .u8 x) := by rw [← hx]; exact c1.at_ _ (bs_get _ _ (by rw [HK.out]; omega))
      have e2 : wo.cell? ⟨B + 1, k, none⟩ = some (.int .u8 b) := by rw [← hb]; exact c2.at_ _ (bs_get _ _ (by rw [HY.out]; omega))
      have e3 : wo.cell? ⟨B + 2, k, none⟩ = some (.int .u8 (os.getD k 0)) := c3.at_ _ (bs_get _ _ (by rw [cl.len]; omega))
      have f3 := c3.free k
      have HXX := Lib.hid hx
      have hk32 : ¬ (32 : Int) ≤ (k : Int) := by omega
      have hst : ∀ y, (0 ≤ y ∧ y ≤ 255) → (if k % 4 = 3 then y % 16 else if 0 < k ∧ k % 4 = 0 then y / 4 * 4 else y) = (if k % 4 = 3 then x % 16 else if 0 < k ∧ k % 4 = 0 then x / 4 * 4 else x) → ∀ w', Only (B + 2) wo w' → Blk w' (B + 2) (bs (os.set k y)) 29 →
          Blk w' B (bs key) 29 ∧ Blk w' (B + 1) (bs by_) 35 ∧ Blk w' (B + 2) (bs (os.set k y)) 29 ∧ Cl key (os.set k y) ∧ Below B w w' := fun y hy he w' hon hbk => by
        rw [← HXX.out] at he
        exact ⟨c1.only hon (by omega), c2.only hon (by omega), hbk, cl.step hlt hy he, hon.below cb (by omega)⟩
      have HST := Lib.hid hst
      have HB3 := Lib.hid (fun y => by have := c3.set k (.int .u8 y); rwa [bs_set] at this)
      clear c1 c2 c3 cl cb hx hb hst
      rcases (show k % 4 = 3 ∨ (0 < k ∧ k % 4 = 0) ∨ (¬ k % 4 = 3 ∧ ¬ (0 < k ∧ k % 4 = 0)) by omega) with hm | hm | hm
      · obtain ⟨y, hy, hyr, hye⟩ := turn_hi x b hxr hbr
        have hmi : (k : Int) % 4 = 3 := by omega
        have HYE := Lib.hid (fun _ : Unit => hye)
        have HM := Lib.hid (fun _ : Unit => hm)
        clear hye hm
        go_upto_region 8 with fail
        refine region_plan ⟨[0, 0, 2, 6, 0, 16, 48, 112, 254, 511, 1023], [10], [0, 0, 0, 0, 0, 0, 0, 0, 0, 0, 0]⟩
          [⟨[0, 1, 2, 3, 4, 5, 6, 7, 8, 9], [2, 3, 5, 6, 7, 8, 9], some 10⟩, ⟨[], [], none⟩] 58 (by kernel_rfl) (by kernel_rfl) (by kernel_rfl) (by kernel_rfl) rfl ?_
        simp only [SeqGo, opsAt_cons, opsAt_nil, List.getElem?_cons, Option.toList_some, List.singleton_append, ↓reduceIte, Nat.reduceEqDiff, Nat.reduceSub]
        go_wp2_with fail
        refine ⟨by (simp only [Sames, Same]; go_simp), ?_⟩
        go_wp2_with fail
        refine ⟨trivial, ?_⟩
        go_wp2_with fail
        refine ⟨⟨k + 1, _, by omega, by go_num, HST.out y hyr (by have := HYE.out (); have := HM.out (); split <;> first | assumption | omega) _ (onlyD (Only.set wo (B + 2) k (.int .u8 y))) (HB3.out y).d1⟩, by simp [intOf]; omega⟩
      · obtain ⟨y, hy, hyr, hye⟩ := turn_lo x b hxr hbr
        have hmi : (k : Int) % 4 = 0 := by omega
        have hk0 : (0 : Int) < (k : Int) := by omega
        have HYE := Lib.hid (fun _ : Unit => hye)
        have HM := Lib.hid (fun _ : Unit => hm)
        clear hye hm
        go_upto_region 10 with fail
        refine region_plan ⟨[0, 0, 2, 6, 0, 16, 48, 112, 254, 511, 1023], [10], [0, 0, 0, 0, 0, 0, 0, 0, 0, 0, 0]⟩
          [⟨[0, 1, 2, 3, 4, 5, 6, 7, 8, 9], [2, 3, 5, 6, 7, 8, 9], some 10⟩, ⟨[], [], none⟩] 58 (by kernel_rfl) (by kernel_rfl) (by kernel_rfl) (by kernel_rfl) rfl ?_
        simp only [SeqGo, opsAt_cons, opsAt_nil, List.getElem?_cons, Option.toList_some, List.singleton_append, ↓reduceIte, Nat.reduceEqDiff, Nat.reduceSub]
        go_wp2_with fail
        refine ⟨by (simp only [Sames, Same]; go_simp), ?_⟩
        go_wp2_with fail
        refine ⟨trivial, ?_⟩
        go_wp2_with fail
        refine ⟨⟨k + 1, _, by omega, by go_num, HST.out y hyr (by have := HYE.out (); have := HM.out (); rw [if_neg (by omega), if_pos (by omega), if_neg (by omega), if_pos (by omega)]; assumption) _ (onlyD (Only.set wo (B + 2) k (.int .u8 y))) (HB3.out y).d1⟩, by simp [intOf]; omega⟩
      · have HM := Lib.hid (fun _ : Unit => hm)
        obtain ⟨m, hm4⟩ : ∃ m, k % 4 = m := ⟨_, rfl⟩
        have hmi : (k : Int) % 4 = (m : Int) := by omega
        have hm3 : ¬ (m : Int) = 3 := by omega
        have HC2 := Lib.hid (fun _ : Unit => (HC.out : _))
        by_cases hk0 : (0 : Int) < (k : Int)
        · have hm0 : ¬ (m : Int) = 0 := by omega
          clear hm hm4
          go_wp2_with fail
          refine ⟨⟨k + 1, os, by omega, by go_num, HC.out⟩, by simp [intOf]; omega⟩
        · clear hm hm4
          go_wp2_with fail
          refine ⟨⟨k + 1, os, by omega, by go_num, HC.out⟩, by simp [intOf]; omega⟩
    · obtain rfl : k = 16 := by omega
      have hlo : (bs os).length = 32 := by rw [bs_len, cl.len]
      have CL := Lib.hid cl
      have kl := load_fact c1 29 0 (ys := bs key) (by rw [List.drop_zero, List.take_length]) Try.underlying29 rfl (n := 32) (by kernel_rfl) HLEN.out
      have kh := load_fact c3 29 0 (ys := bs os) (by rw [List.drop_zero, List.take_length]) Try.underlying29 rfl (n := 32) (by kernel_rfl) hlo
      have P1 := Lib.hid (fun w v hd => polysum_any w key xs v HK.out HKB.out hd HX.out (by omega))
      have P2 := Lib.hid (fun w v hd => polysum_any w os xs v cl.len cl.isB hd HX.out (by omega))
      rw [cl.tag] at P2
      have ke := eq16 (tagL key xs) (tagL key xs) (tagL_len _ _) (tagL_len _ _)
      rw [show (tagL key xs == tagL key xs) = true by simp] at ke
      have HD1 := Lib.hid (HD.out.stay cb (by omega))
      have CB := Lib.hid cb
      have hBo : B < wo.heap.size := c1.lt
      clear c1 c2 c3 cb hlo cl
      generalize tagL key xs = T1 at *
      go_upto_region 11 with fail
      have hbl0 : Below wo.heap.size wo wo.drew := bw_d1 (Below.refl _ _)
      refine region_plan ⟨[0, 0, 3, 0, 0, 31, 63, 127, 255, 511, 1023], [2, 5, 8], [0, 0, 0, 0, 0, 1, 2, 2, 2, 3, 3]⟩
        [⟨[0, 1, 3, 4], [0, 3], some 2⟩, ⟨[], [3], some 5⟩, ⟨[6, 7], [6], some 8⟩, ⟨[9, 10], [], none⟩] 58 (by kernel_rfl) (by kernel_rfl) (by kernel_rfl) (by kernel_rfl) rfl ?_
      simp only [SeqGo, opsAt_cons, opsAt_nil, List.getElem?_cons, Option.toList_some, List.singleton_append, ↓reduceIte, Nat.reduceEqDiff, Nat.reduceSub]
      go_wp2_with (first
        | (refine wp_load_f rfl 29 (.tmp 3) rfl rfl (kl _ (by assumption)) ?_)
        | (refine wp_load_f rfl 29 (.tmp 7) rfl rfl (kh _ (by assumption)) ?_))
      refine ⟨⟨same_load rfl 29 (.tmp 7) rfl rfl (kh _ (by assumption)) rfl, same_load rfl 29 (.tmp 3) rfl rfl (kl _ (by assumption)) rfl, trivial⟩, ?_⟩
      go_wp2_with (go_at_call 18; refine (P2.out _ _ (HD1.out.stay hbl0 (Nat.le_refl _))).mono ?_; rintro e w5 ⟨rfl, hb5⟩; have hbl5 : Below wo.heap.size wo w5 := bw_then hbl0 hb5 hbl0.size; clear hb5)
      refine ⟨⟨same_load rfl 29 (.tmp 3) rfl rfl (kl _ (by assumption)) rfl, trivial⟩, ?_⟩
      go_wp2_with (go_at_call 18; refine (P1.out _ _ (HD1.out.stay hbl5 (Nat.le_refl _))).mono ?_; rintro e w6 ⟨rfl, hb6⟩; have hbl6 : Below wo.heap.size wo w6 := bw_then hbl5 hb6 hbl5.size; clear hb6)
      refine ⟨by (simp only [Sames, Same]; go_simp), ?_⟩
      go_wp2_with (go_at_call 13; refine (awake03_any _).mono ?_; rintro e w8 ⟨rfl, hb8⟩; have hbl8 : Below wo.heap.size wo w8 := bw_then hbl6 hb8 hbl6.size; clear hb8)
      refine ⟨by (simp only [Sames]; try go_simp), ?_⟩
      go_wp2_with fail
      all_goals go_ret
      exact ⟨rfl, by rw [hB]; exact bw_then CB.out hbl8 (by omega)⟩

set_option maxRecDepth 100000 in
theorem contract (H : Type) (enc : TypeId × Value → H) (W : World) (base : Nat) (args : Array Value) (ds gs : List (DataW H)) (before : List MemPlace)
    (hval : ∀ (j : Nat) t v, Try.f7.params[j]? = some t → args[j]? = some v → Value.okWide Try.prog W .any base t v)
    (hW : DataW.Whole enc Try.prog Try.f7.params.toList Rows.polyClampSpec.vars false W args.toList ds gs before) :
    Calls Try.prog 7 args W fun e W' => ∃ v, e = .returned v ∧ Rows.polyClampSpec.post enc Try.prog Try.f7 false true false false W args v W' := by
  have hW' := hW
  obtain ⟨p, q, hA0, hV, rfl, hfz, hnd⟩ := hW
  have hA : DataW.TrodAll enc Try.prog W 0 (fun _ => true) true Try.f7.params.toList args.toList ds p := hA0
  rw [Try.params7] at hA hval
  obtain ⟨v0, vs0, d0, ds0, p0, q0, hargs0, rfl, rfl, h0, r0⟩ := trodAll_cons hA
  obtain ⟨v1, vs1, d1, ds1, p1, q1, hargs1, e1, rfl, h1, r1⟩ := trodAll_cons r0
  subst e1
  obtain ⟨v2, vs2, d2, ds2, p2, q2, hargs2, e2, rfl, h2, r2⟩ := trodAll_cons r1
  subst e2
  obtain ⟨e9, e8, e7⟩ := trodAll_nil r2
  subst e9 e8 e7
  obtain rfl : args = #[v0, v1, v2] := by cases args; simp_all
  obtain ⟨rfl, rfl⟩ := trodVars_none hV
  have hv0 := hval 0 _ v0 rfl rfl
  have hv1 := hval 1 _ v1 rfl rfl
  have hv2 := hval 2 _ v2 rfl rfl
  clear hA0
  obtain ⟨fuel0, hf0⟩ := h0
  obtain ⟨fuel1, hf1⟩ := h1
  obtain ⟨fuel2, hf2⟩ := h2
  obtain ⟨z0, hl0, hcs0, hw0⟩ := trod_arr_ints Try.underlying29 Try.underlying5 (show Try.prog.cellsOf 5 = 1 by kernel_rfl) (show Try.prog.cellsOf 29 = 32 by kernel_rfl) hf0
  obtain ⟨x0, rfl⟩ : ∃ cs, v0 = .agg cs := by simp only [Value.okWide] at hv0; obtain ⟨cs, h, _⟩ := hv0; exact ⟨cs, h⟩
  obtain rfl : x0 = (z0.map (Value.int .u8)).toArray := by apply Array.toList_inj.1; simpa [Value.cells] using hcs0
  obtain ⟨z1, hl1, hcs1, hw1⟩ := trod_arr_ints Try.underlying35 Try.underlying5 (show Try.prog.cellsOf 5 = 1 by kernel_rfl) (show Try.prog.cellsOf 35 = 16 by kernel_rfl) hf1
  obtain ⟨x1, rfl⟩ : ∃ cs, v1 = .agg cs := by simp only [Value.okWide] at hv1; obtain ⟨cs, h, _⟩ := hv1; exact ⟨cs, h⟩
  obtain rfl : x1 = (z1.map (Value.int .u8)).toArray := by apply Array.toList_inj.1; simpa [Value.cells] using hcs1
  rw [one_of_ok Try.underlying33 rfl hv2] at hf2
  obtain ⟨u2, xs2, hcs2, hb2, hr2⟩ := bytes_of_trod hf2
  obtain rfl : v2 = u2 := by simpa using hcs2
  refine (walk W z0 z1 v2 xs2 hl0 hl1 (fun z hz => byte_of_wf (hw0 z hz)) (fun z hz => byte_of_wf (hw1 z hz)) hr2 hb2).mono fun e W' ⟨he, hb⟩ => ⟨_, he, ?_⟩
  exact law_post Try.laidOut (by kernel_rfl) (by kernel_rfl) Try.underlying4 rfl rfl rfl rfl hW' hb

set_option maxRecDepth 100000 in
theorem lifted (os : Os) (started : os.Started) (H : Type) (enc : TypeId × Value → H) (F : Stop.Interp) :
    ReturnsInHanded {} Try.checked os 7 .any ((OpenSpec.ofChange Rows.polyClampSpec).preRow enc Try.prog Try.f7 Rows.polyClampRow.domain false Rows.polyClampRow.laid) (((OpenSpec.ofChange Rows.polyClampSpec).at F).post enc Try.prog Try.f7 false true false false) := by
  obtain ⟨places, hx⟩ : ∃ places, DataW.whole enc Try.prog ((World.holding Try.prog os ⟨#[], #[], []⟩).forCall (fun _ _ => 0) ⟨#[], #[.agg (List.replicate 32 (Value.int .u8 0)).toArray, .agg (List.replicate 16 (Value.int .u8 0)).toArray, .slice none 0 0], []⟩).memory Try.f7.params.toList Rows.polyClampSpec.vars false #[.agg (List.replicate 32 (Value.int .u8 0)).toArray, .agg (List.replicate 16 (Value.int .u8 0)).toArray, .slice none 0 0].toList 8 = some ([.agg (List.replicate 32 (.lit (.int .u8 0))), .agg (List.replicate 16 (.lit (.int .u8 0))), .nil], [], places) := ⟨[], by kernel_rfl⟩
  refine returnsInHanded_of_row (C := Try.checked) (s := OpenSpec.ofChange Rows.polyClampSpec) Try.own started (by kernel_rfl) Try.func7
    (witness_row_at (enc := enc) (C := Try.checked) false (World.holding Try.prog os ⟨#[], #[], []⟩) #[.agg (List.replicate 32 (Value.int .u8 0)).toArray, .agg (List.replicate 16 (Value.int .u8 0)).toArray, .slice none 0 0] rfl (by kernel_rfl) (by kernel_rfl) (by kernel_rfl)
      (OpenSpec.preRow_of_cond 8 hx (by kernel_rfl) (fun k hk => by cases hk) (by kernel_rfl) (laid_none _ _))) ?_
  intro W base args ds gs before hval hW _ _ _ _ _ _
  exact contract H enc W base args ds gs before hval hW

theorem proved : Rows.PolyClampSaid :=
  OpenClaim.holds_of_cond 7 Try.f7 rfl rfl rfl rfl rfl rfl rfl ⟨rfl, rfl, rfl, rfl, rfl⟩ rfl rfl rfl rfl rfl (by kernel_rfl) Try.func7 (by kernel_rfl)
    (of_decide_eq_true (by kernel_rfl)) (by unfold Func.isWrapper; first | (rw [if_pos (by decide +kernel)]; kernel_rfl) | (rw [if_neg (by decide +kernel)]; exact ⟨rfl, rfl⟩))
    (fun os started H enc _ F => by rw [OpenClaim.pre_eq_preRow]; exact lifted os started H enc F)
end Go.Proofs.Ytmjjnaaiakchhaa.lawPolyClamp
