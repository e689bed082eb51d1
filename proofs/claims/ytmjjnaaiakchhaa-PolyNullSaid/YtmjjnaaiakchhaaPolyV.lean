/-
  The reference's Sum and Add.
-/
import Derived.Test.YtmjjnaaiakchhaaPolyS
import Derived.Test.YtmjjnaaiakchhaaSlice
namespace Go.Proofs.Ytmjjnaaiakchhaa
open Go.RowKit

theorem arr_slice {P : Program} (w : World) (t : TypeId) {e : TypeId} {n : Nat} (o : Nat) (ha : P.arrayLen t = n) (he : P.elem t = e) (hu : P.underlying t = some (.array n e)) (hs : (P.info? e).map (·.size) = some 1) :
    (Instr.sliceAt t (.pointer (some ⟨o, 0, none⟩)) none none none).run P w = .ok (.slice (some ⟨o, 0, none⟩) n n) w := by
  obtain ⟨q, hq1, hq2⟩ := Option.map_eq_some_iff.1 hs
  rw [run_sliceAt_array_all (P := P) w t ⟨o, 0, none⟩ (by rw [ha, he]; exact hu)]
  rw [he, ha]
  simp [sizeOf, typeInfo, hq1, hq2, slicedAt, Addr.add]
theorem slice32 (w : World) (o : Nat) : (Instr.sliceAt 29 (.pointer (some ⟨o, 0, none⟩)) none none none).run Try.prog w = .ok (.slice (some ⟨o, 0, none⟩) 32 32) w :=
  arr_slice w _ o (by kernel_rfl) (by kernel_rfl) Try.underlying29 (by kernel_rfl)
theorem slice16 (w : World) (o : Nat) : (Instr.sliceAt 35 (.pointer (some ⟨o, 0, none⟩)) none none none).run Try.prog w = .ok (.slice (some ⟨o, 0, none⟩) 16 16) w :=
  arr_slice w _ o (by kernel_rfl) (by kernel_rfl) Try.underlying35 (by kernel_rfl)

/-- The digits of a number, so many. -/
theorem take_low {xs : List Int} (hx : IsB xs) (n : Nat) (hn : n ≤ xs.length) : xs.take n = lowN (leV xs) n := by
  have h1 := leV_range (xs := xs.take n) fun z hz => hx z (List.mem_of_mem_take hz)
  have h2 := leV_range hx
  have h3 := leV_append (xs.take n) (xs.drop n)
  rw [List.take_append_drop, List.length_take, Nat.min_eq_left hn] at h3
  rw [List.length_take, Nat.min_eq_left hn] at h1
  refine leV_inj (fun z hz => hx z (List.mem_of_mem_take hz)) (lowN_isB _ _) (by rw [List.length_take, lowN_len]; omega) ?_
  rw [leV_lowN _ _ h2.1, h3, Int.add_mul_emod_self_left, Int.emod_eq_of_lt h1.1 h1.2]

theorem take20_val {xs : List Int} (hx : IsB xs) (hl : xs.length = 40) (h : leV xs < 256 ^ 20) : leV (xs.take 20) = leV xs := by
  have h1 := leV_range (xs := xs.take 20) fun z hz => hx z (List.mem_of_mem_take hz)
  have h2 := leV_range (xs := xs.drop 20) fun z hz => hx z (List.mem_of_mem_drop hz)
  have h3 := leV_append (xs.take 20) (xs.drop 20)
  rw [List.take_append_drop, List.length_take, Nat.min_eq_left (by omega)] at h3
  generalize leV (xs.take 20) = a at *
  generalize leV (xs.drop 20) = b at *
  have e20 : (256 : Int) ^ 20 = 1461501637330902918203684832716283019655932542976 := by decide
  rw [e20] at *
  omega
theorem piece_range {xs : List Int} (hx : IsB xs) (q : Nat) : 0 ≤ leV ((xs.drop q).take 16 ++ [1]) ∧ leV ((xs.drop q).take 16 ++ [1]) < 174224571863520493293247799005065324265472 := by
  have hb : IsB ((xs.drop q).take 16 ++ [1]) := fun z hz => by
    rcases List.mem_append.1 hz with hz | hz
    · exact hx z (List.mem_of_mem_drop (List.mem_of_mem_take hz))
    · obtain rfl := List.mem_singleton.1 hz; exact ⟨by decide, by decide⟩
  have h1 := leV_range hb
  have h2 : ((xs.drop q).take 16 ++ [1]).length ≤ 17 := by simp; omega
  have h4 : (256 : Int) ^ ((xs.drop q).take 16 ++ [1]).length ≤ 256 ^ 17 := by
    have h5 := Nat.pow_le_pow_right (show 0 < 256 by decide) h2
    have e1 : (256 : Int) ^ ((xs.drop q).take 16 ++ [1]).length = ((256 ^ ((xs.drop q).take 16 ++ [1]).length : Nat) : Int) := by rw [Int.natCast_pow]; rfl
    have e2 : (256 : Int) ^ 17 = ((256 ^ 17 : Nat) : Int) := by rw [Int.natCast_pow]; rfl
    rw [e1, e2]
    exact Int.ofNat_le.2 h5
  have e17 : (256 : Int) ^ 17 = 87112285931760246646623899502532662132736 := by decide
  rw [e17] at h4
  omega

theorem slice32from (w : World) (o : Nat) : (Instr.sliceAt 29 (.pointer (some ⟨o, 0, none⟩)) (some (.int .i64 16)) none none).run Try.prog w = .ok (.slice (some ⟨o, 16, none⟩) 16 16) w := by
  have ha : Try.prog.arrayLen 29 = 32 := by kernel_rfl
  have he : Try.prog.elem 29 = 5 := by kernel_rfl
  obtain ⟨q, hq1, hq2⟩ := Option.map_eq_some_iff.1 (show (Try.prog.info? 5).map (·.size) = some 1 by kernel_rfl)
  rw [run_sliceAt_array_l (P := Try.prog) w 29 ⟨o, 0, none⟩ (by rw [ha, he]; exact Try.underlying29) .i64 16 (by decide) (by rw [ha]; decide)]
  rw [he, ha]
  simp [sizeOf, typeInfo, hq1, hq2, slicedAt, Addr.add]
theorem Rd.of_part {w : World} {b : Nat} {cs : List Value} {t : TypeId} (h : Blk w b cs t) (off n : Nat) (hn : off + n ≤ cs.length) (hm : n ≤ 9223372036854775807) : Rd w (.slice (some ⟨b, off, none⟩) n n) ((cs.drop off).take n) := by
  have hl : ((cs.drop off).take n).length = n := by rw [List.length_take, List.length_drop]; omega
  refine ⟨_, n, by rw [hl], by omega, by unfold maxLen; omega, (fun h => by cases h), .inr ⟨b, off, rfl, fun j hj => ?_⟩⟩
  rw [hl] at hj
  rw [h.get, List.getElem_take, List.getElem_drop, List.getElem?_eq_getElem (by omega)]

set_option maxRecDepth 100000 in
set_option maxHeartbeats 4000000 in
theorem sum03_any (w : World) (v : Value) (key xs : List Int) (hk : key.length = 32) (hkb : IsB key) (hr : Rd w v (bs xs)) (hx : IsB xs) (hl : xs.length ≤ 1000000000000) :
    Calls Try.prog 17 #[.agg (bs key).toArray, v] w fun e w' => e = .returned (.agg (bs (tagL key xs)).toArray) ∧ Below w.heap.size w w' := by
  obtain ⟨i, hi, hz0, hz1, hz2⟩ := info_parts info3
  obtain ⟨B, hB⟩ : ∃ B, w.heap.size = B := ⟨_, rfl⟩
  have HK := Lib.hid hk
  have HKB := Lib.hid hkb
  have HR := Lib.hid hr
  have HX := Lib.hid hx
  clear hk hkb hx
  have hel : Try.prog.underlying 33 = some (.slice (Try.prog.elem 33)) := by kernel_rfl
  have hsz : ∀ w, (sizeOf (Try.prog.elem 33)).run Try.prog w = .ok 1 w := fun w => by kernel_rfl
  have hlv : ∀ w', (Builtin.len_ #[33] 3 #[v]).run Try.prog w' = .ok (goInt xs.length) w' := by
    have := len_fact hr (ty := 3) hel
    rwa [bs_len] at this
  have HSF := Lib.hid (fun i k => sub_fact hr hel hsz i k)
  clear hr hel hsz
  go_enter Try.func17, Try.ntmps17
  go_upto_region 1 with fail
  change Code.wp _ _ _ _ ((w.alloc (.cells (bs key).toArray 29)).alloc (.cells (bs (List.replicate 16 0)).toArray 35))
  have b0 : Blk ((w.alloc (.cells (bs key).toArray 29)).alloc (.cells (bs (List.replicate 16 0)).toArray 35)) B (bs key) 29 := (Blk.mk_ _ hB.symm rfl).al _
  have b1 : Blk ((w.alloc (.cells (bs key).toArray 29)).alloc (.cells (bs (List.replicate 16 0)).toArray 35)) (B + 1) (bs (List.replicate 16 0)) 35 := Blk.mk_ _ (by simp [hB]) rfl
  have bb : Below B w ((w.alloc (.cells (bs key).toArray 29)).alloc (.cells (bs (List.replicate 16 0)).toArray 35)) := bw_al (bw_al (Below.refl _ _) (by omega) _) (by simp; omega) _
  generalize ((w.alloc (.cells (bs key).toArray 29)).alloc (.cells (bs (List.replicate 16 0)).toArray 35)) = w1 at *
  have hBw := b1.lt
  have B0 := Lib.hid b0
  have B1 := Lib.hid b1
  have BB := Lib.hid bb
  clear b1 bb
  have CL := Lib.hid (clamp_any w1 key HK.out HKB.out)
  go_upto_region 2 with (first
    | (refine wp_load_blk rfl 29 (.tmp 2) rfl rfl b0 Try.underlying29 rfl (n := 32) (by kernel_rfl) (by rw [bs_len, HK.out]) ?_)
    | (go_at_call 32; refine CL.out.mono ?_; rintro e w2 ⟨gc, rfl, hbc, hb2⟩)
    | (go_at_call 31; refine (number_any _ _ (clampL key) (by have := Rd.of_blk hbc (by rw [bs_len, clampL_len]; decide); rwa [bs_len, clampL_len] at this) (clampL_isB HKB.out) (by rw [clampL_len]; decide)).mono ?_; rintro e w3 ⟨vr, ry, rfl, hr1, hr2, hb3⟩))
  have bw3 : Below w1.heap.size w1 w3 := bw_then hb2 hb3 hb2.size
  go_upto_region 3 with (refine wpList_make_full w3 rfl (.const (.int .i64 40)) (.const (.int .i64 40)) 62 rfl w3.heap.size 3 i _ 1 Try.underlying62 hi hz0 hz1 .i64 .i64 _ _ 40 rfl rfl rfl rfl (by rw [hz2]; decide) (by decide) (Nat.le_refl _) ?_; intro w4 hown hgrow)
  have hb4 : Below w3.heap.size w3 w4 := (Below.refl _ _).grown hgrow (Nat.le_refl _) (fun k h => by cases h)
  have hn4 : Num w4 (.slice (some ⟨w3.heap.size, 0, none⟩) 40 40) (List.replicate 40 0) := by
    have h := blk_of_own hown
    rw [show (Value.cells (Value.int IntKind.i64 0)) = #[Value.int IntKind.i64 0] from rfl, Nat.mul_one, toList_madeCells_one] at h
    refine ⟨?_, by simp, fun z hz => by obtain ⟨_, rfl⟩ := List.mem_replicate.1 hz; exact ⟨Int.le_refl _, by decide⟩⟩
    have h2 := Rd.of_blk h (by simp)
    simpa [ni] using h2
  have bw4 : Below w1.heap.size w1 w4 := bw_then bw3 hb4 bw3.size
  have HR1 := Lib.hid (hr1.stay hb4)
  have HRV := Lib.hid (fun _ : Unit => hr2)
  have HN4 := Lib.hid hn4
  clear hbc hr1 hr2 hown hgrow hn4 b0 hb2 hb3 hb4
  go_wp2_with fail
  go_loopw [6, 7] (fun s x wr => ∃ (k : Nat) (ss : List Int), 16 * k < xs.length + 16 ∧ x = .int .i64 (16 * k : Nat) ∧ Num wr s ss ∧ leV ss = hK (leV (clampL key)) xs k ∧ Below w4.heap.size w4 wr) (fun _ x _ => xs.length + 16 - (intOf x).toNat)
  case atStart => exact ⟨0, _, by omega, rfl, HN4.out, leV_zeros _, Below.refl _ _⟩
  case round =>
    obtain ⟨k, ss, hk, rfl, hnum, hval, hbl⟩ := hrel
    obtain ⟨q, hq⟩ : ∃ q, 16 * k = q := ⟨_, rfl⟩
    rw [hq] at hk
    rw [hq]
    have HQ := Lib.hid (fun _ : Unit => hq)
    have HNU := Lib.hid hnum
    have HVA := Lib.hid (fun _ : Unit => hval)
    clear hnum hval hq
    by_cases hlt : q < xs.length
    · obtain ⟨m, hm⟩ : ∃ m, min (q + 16) xs.length = m := ⟨_, rfl⟩
      have hmi : (if (xs.length : Int) < (q : Int) + 16 then (xs.length : Int) else (q : Int) + 16) = (m : Int) := by split <;> omega
      obtain ⟨vp, hvp, s1, s2, _, _, _, _⟩ := HSF.out q m (by omega) (by rw [bs_len]; omega)
      obtain ⟨wo, rfl⟩ : ∃ wo : World, wo = wr := ⟨_, rfl⟩
      have bbo : Below B w wo := bw_then BB.out (bw_then bw4 hbl bw4.size) (by omega)
      have hpe : ((bs xs).drop q).take (m - q) = bs ((xs.drop q).take 16) := by
        rw [bs, ← List.map_drop, ← List.map_take]
        congr 1
        by_cases h16 : q + 16 ≤ xs.length
        · rw [show m - q = 16 by omega]
        · rw [List.take_of_length_le (by rw [List.length_drop]; omega), List.take_of_length_le (by rw [List.length_drop]; omega)]
      rw [hpe] at hvp
      have hvp2 := hvp.stay bbo (by omega)
      obtain ⟨pc, hpc⟩ : ∃ pc, (xs.drop q).take 16 = pc := ⟨_, rfl⟩
      have hpl : pc.length ≤ 16 := by rw [← hpc, List.length_take]; omega
      have hpr := piece_range HX.out q
      rw [hpc] at hvp2 hpr
      have hpb : IsB (pc ++ [1]) := fun z hz => by
        rcases List.mem_append.1 hz with hz | hz
        · rw [← hpc] at hz; exact HX.out z (List.mem_of_mem_drop (List.mem_of_mem_take hz))
        · obtain rfl := List.mem_singleton.1 hz; exact ⟨by decide, by decide⟩
      have HVP := Lib.hid hvp2
      have HPC := Lib.hid (fun _ : Unit => (⟨hpc, hpl, hpr, hpb⟩ : (xs.drop q).take 16 = pc ∧ pc.length ≤ 16 ∧ (0 ≤ leV (pc ++ [1]) ∧ leV (pc ++ [1]) < 174224571863520493293247799005065324265472) ∧ IsB (pc ++ [1])))
      clear hvp hvp2 hpc hpr hpb hpe hm
      go_upto_region 9 with (first
        | (at_builtin; refine wp_app (.tmp 19) (.tmp 27) 33 rfl rfl 5 (.int .u8 0) 1 Try.underlying33 info5 rfl wo.heap.size rfl (World.ownsRow_nil _ _ _ _) rfl HVP.out (bs_one _) (by decide) (by rw [bs_len]; omega) (Nat.le_refl _) ?_; intro v5 w5 hown5 _ hb5)
        | (at_builtin; refine wp_app (.tmp 29) (.tmp 30) 33 rfl rfl 5 (.int .u8 0) 1 Try.underlying33 info5 rfl wo.heap.size rfl (hown5.alloc _) rfl (Rd.one _ _ _) (by intro y hy; simp at hy; subst hy; rfl) (by decide) (by rw [bs_len]; simp; omega) (by have := hb5.size; simp; omega) ?_; intro v6 w6 hown6 _ hb6))
      have bw56 : Below wo.heap.size wo w6 := Below.trans (bw_al hb5 hb5.size _) hb6
      have hr6 : Rd w6 v6 (bs (pc ++ [1])) := by
        have := Rd.of_own hown6
        simpa [bs] using this
      have HN6 := Lib.hid (HNU.out.stay bw56)
      have HR6 := Lib.hid ((HR1.out.stay hbl).stay bw56)
      have HNB := Lib.hid (number_any w6 v6 (pc ++ [1]) hr6 (HPC.out ()).2.2.2 (by have := (HPC.out ()).2.1; simp; omega))
      have hsr := hK_range (leV (clampL key)) xs k
      rw [← HVA.out ()] at hsr
      have hlr := (HPC.out ()).2.2.1
      have hcr := leV_range (clampL_isB HKB.out)
      rw [clampL_len, show (256 : Int) ^ 16 = 340282366920938463463374607431768211456 by decide] at hcr
      have e20 : (256 : Int) ^ 20 = 1461501637330902918203684832716283019655932542976 := by decide
      have hprv : pr = 1361129467683753853853498429727072845819 := rfl
      have hbig : big40 = 2135987035920910082395021706169552114602704522356652769947041607822219725780640550022962086936576 := rfl
      have hsum : leV ss + leV (pc ++ [1]) < 256 ^ 20 := by omega
      have hsum2 : leV ss + leV (pc ++ [1]) < big40 := by omega
      have hcr2 : leV (clampL key) < 256 ^ 20 := by omega
      have HSUM := Lib.hid (fun _ : Unit => (⟨hsum, hsum2, hcr2⟩ : leV ss + leV (pc ++ [1]) < 256 ^ 20 ∧ leV ss + leV (pc ++ [1]) < big40 ∧ leV (clampL key) < 256 ^ 20))
      clear hsr hlr hcr e20 hprv hbig hsum hsum2 hcr2 hown6 hown5 hr6
      go_wp2_with (first
        | (go_at_call 31; refine HNB.out.mono ?_; rintro e w7 ⟨v7, y7, rfl, hn7, hv7, hb7⟩; have HN7 := Lib.hid hn7; have HV7 := Lib.hid (fun _ : Unit => hv7); clear hn7 hv7)
        | (go_at_call 35; refine (plus_any w7 _ _ ss y7 (HN6.out.stay hb7) HN7.out (by rw [HV7.out ()]; exact (HSUM.out ()).2.1)).mono ?_; rintro e w8 ⟨v8, y8, rfl, hn8, hv8, hb8⟩; have HN8 := Lib.hid hn8; have HV8 := Lib.hid (fun _ : Unit => hv8); clear hn8 hv8)
        | (go_at_call 34; refine (times_any w8 _ _ y8 ry HN8.out ((HR6.out.stay hb7).stay hb8)).mono ?_; rintro e w9 ⟨v9, y9, rfl, hn9, hv9, hb9⟩; have HN9 := Lib.hid hn9; have HV9 := Lib.hid (fun _ : Unit => hv9); clear hn9 hv9)
        | (go_at_call 33; refine (rest_any w9 _ y9 HN9.out).mono ?_; rintro e w10 ⟨v10, y10, rfl, hn10, hv10, hb10⟩; have HN10 := Lib.hid hn10; have HV10 := Lib.hid (fun _ : Unit => hv10); clear hn10 hv10))
      refine ⟨⟨k + 1, y10, by have := HQ.out (); omega, ?_, HN10.out, ?_, ?_⟩, by simp [intOf]; omega⟩
      · have := HQ.out ()
        congr 1
        omega
      · have hsm := HSUM.out ()
        rw [HV10.out (), HV9.out (), take20_val HN8.out.isB HN8.out.len (by rw [HV8.out (), HV7.out ()]; exact hsm.1), take20_val HR1.out.isB HR1.out.len (by rw [HRV.out ()]; exact hsm.2.2), HV8.out (), HV7.out (), HRV.out (), hK, HQ.out (), (HPC.out ()).1, HVA.out ()]
      · have b67 := bw_then bw56 hb7 bw56.size
        have b68 := bw_then b67 hb8 b67.size
        have b69 := bw_then b68 hb9 b68.size
        exact bw_then hbl (bw_then b69 hb10 b69.size) hbl.size
    · obtain ⟨wo, rfl⟩ : ∃ wo : World, wo = wr := ⟨_, rfl⟩
      have hb1o := bw_then bw4 hbl bw4.size
      have hkk : k = (xs.length + 15) / 16 := by have := HQ.out (); omega
      have hB1 := B1.out.stay hb1o
      have hk16 : Rd wo (.slice (some ⟨B, 16, none⟩) 16 16) (bs ((key.drop 16).take 16)) := by
        have := Rd.of_part (B0.out.stay hb1o) 16 16 (by rw [bs_len, HK.out]; decide) (by decide)
        simpa [bs, List.map_take, List.map_drop] using this
      have hik : IsB ((key.drop 16).take 16) := fun z hz => HKB.out z (List.mem_of_mem_drop (List.mem_of_mem_take hz))
      have hlk : ((key.drop 16).take 16).length = 16 := by rw [List.length_take, List.length_drop, HK.out]; rfl
      have NB := Lib.hid (number_any wo _ _ hk16 hik (by rw [hlk]; decide))
      have hsr := hK_range (leV (clampL key)) xs k
      rw [← HVA.out ()] at hsr
      have hlr := leV_range hik
      rw [hlk, show (256 : Int) ^ 16 = 340282366920938463463374607431768211456 by decide] at hlr
      have hsum : leV ss + leV ((key.drop 16).take 16) < big40 := by
        have hprv : pr = 1361129467683753853853498429727072845819 := rfl
        have hbig : big40 = 2135987035920910082395021706169552114602704522356652769947041607822219725780640550022962086936576 := rfl
        omega
      have HSUM := Lib.hid hsum
      have HKK := Lib.hid (fun _ : Unit => hkk)
      have HBB := Lib.hid (bw_then BB.out hb1o (by omega))
      have s16 := slice32from wo B
      have HB1 := Lib.hid hB1
      have hBo : B + 1 < wo.heap.size := hB1.lt
      have hlt16 : ∀ ys : List Int, ys.length = 40 → (bs (ys.take 16)).length = 16 := fun ys hy => by rw [bs_len, List.length_take, hy]; rfl
      clear hsr hlr hsum hkk hik hlk hk16 hB1 hb1o
      go_wp2_with (first
        | (go_at_call 31; refine NB.out.mono ?_; rintro e w7 ⟨v7, y7, rfl, hn7, hv7, hb7⟩; have HN7 := Lib.hid hn7; have HV7 := Lib.hid (fun _ : Unit => hv7); clear hn7 hv7)
        | (go_at_call 35; refine (plus_any w7 _ _ ss y7 (HNU.out.stay hb7) HN7.out (by rw [HV7.out ()]; exact HSUM.out)).mono ?_; rintro e w8 ⟨v8, y8, rfl, hn8, hv8, hb8⟩; have HN8 := Lib.hid hn8; have HV8 := Lib.hid (fun _ : Unit => hv8); clear hn8 hv8)
        | (go_at_call 36; refine (bytes16_any w8 _ y8 HN8.out).mono ?_; rintro e w9 ⟨rfl, hb9⟩)
        | (refine wp_store_blk rfl 35 (.tmp 4) (.tmp 43) rfl rfl rfl ((HB1.out.stay hb7).stay hb8 |>.stay hb9) (bs_one _) (by rw [hlt16 _ HN8.out.len]; rfl) (n := 16) (by kernel_rfl) (hlt16 _ HN8.out.len) ?_; intro w' hbx hon))
      refine ret_blk rfl rfl hbx Try.underlying35 rfl (n := 16) (by kernel_rfl) (hlt16 _ HN8.out.len) rfl ?_
      have b78 := bw_then hb7 hb8 hb7.size
      have b79 := bw_then b78 hb9 b78.size
      refine ⟨?_, by rw [hB]; exact hon.below (bw_then HBB.out b79 (by omega)) (by omega)⟩
      rw [take_low HN8.out.isB 16 (by rw [HN8.out.len]; decide), HV8.out (), HV7.out (), HVA.out (), HKK.out (), tagL]
end Go.Proofs.Ytmjjnaaiakchhaa
