/-
  The statement ChachaPieces: in what pieces data comes makes no difference. No condition but the table as it is laid.
-/
import Derived.Test.YtmjjnaaiakchhaaDoorXorM
import Derived.Test.YtmjjnaaiakchhaaDoorEls
import Derived.Test.YtmjjnaaiakchhaaDoorSlice
import Derived.Test.YtmjjnaaiakchhaaDoorTie
namespace Go.Proofs.YtmjjnaaiakchhaaDoor.lawChachaPieces
open Go.ChangeShapes Go.WideShapes Go.ChangeAt Go.RowKit

theorem u16_of_wf {z : Int} (h : (Lit.int .u16 z).wf = true) : 0 ≤ z ∧ z ≤ 65535 := by
  simp [Lit.wf] at h
  have e1 : IntKind.u16.min = 0 := rfl
  have e2 : IntKind.u16.max = 65535 := rfl
  omega

set_option maxRecDepth 100000 in
set_option maxHeartbeats 2000000 in
theorem walk (w : World) (key nonce : List Int) (c : Int) (v : Value) (xs : List Int) (zs : List Int) (hz : zs.length = 2) (hzw : ∀ z ∈ zs, (Lit.int .u16 z).wf = true) (hk : key.length = 32) (hn : nonce.length = 12) (hkb : IsB key) (hnb : IsB nonce) (hc : 0 ≤ c ∧ c < 4294967296) (hr : Rd w v (bs xs)) (hb : IsB xs) (ht : Tab w) :
    Calls Tryd.prog 7 #[.agg (atV key c nonce).toArray, v, .agg (zs.map (Value.int .u16)).toArray] w fun e w' => Holds e w w' := by
  have HA := Lib.hid (show (atV key c nonce).length = 45 by rw [atV_len, hk, hn])
  have H0 := Lib.hid (fun _ : Unit => atV_c key c nonce hk)
  have p0 : ((atV key c nonce).drop 0).take (bs key).length = bs key := by simp [atV]
  have p1 : ((atV key c nonce).drop 33).take (bs nonce).length = bs nonce := by
    rw [atV, List.drop_append, List.drop_of_length_le (by simp [bs, hk])]; simp only [bs_len, hk]; simp [bs, List.take_of_length_le]
  have P0 := Lib.hid (fun _ : Unit => p0)
  have P1 := Lib.hid (fun _ : Unit => p1)
  have HK := Lib.hid hk
  have HN := Lib.hid hn
  have HKB := Lib.hid hkb
  have HNB := Lib.hid hnb
  have HD := Lib.hid hr
  have HX := Lib.hid hb
  clear hk hn hkb hnb p0 p1 hb
  obtain ⟨B, hB⟩ : ∃ B, w.heap.size = B := ⟨_, rfl⟩
  obtain ⟨z0, z1, rfl⟩ : ∃ a b, zs = [a, b] := match zs, hz with | [a, b], _ => ⟨a, b, rfl⟩
  have hz0 := u16_of_wf (hzw z0 (by simp))
  have hz1 := u16_of_wf (hzw z1 (by simp))
  obtain ⟨n, hn⟩ : ∃ n, xs.length = n := ⟨_, rfl⟩
  obtain ⟨i, hi⟩ : ∃ i : Nat, z0 % ((n : Int) + 1) = i := ⟨(z0 % ((n : Int) + 1)).toNat, by have := Int.emod_nonneg z0 (show (n : Int) + 1 ≠ 0 by omega); omega⟩
  have hi2 : i ≤ n := by have := Int.emod_lt_of_pos z0 (show (0 : Int) < (n : Int) + 1 by omega); omega
  obtain ⟨m, hm⟩ : ∃ m : Nat, z1 % ((n : Int) - (i : Int) + 1) = m := ⟨(z1 % ((n : Int) - (i : Int) + 1)).toNat, by have := Int.emod_nonneg z1 (show (n : Int) - (i : Int) + 1 ≠ 0 by omega); omega⟩
  have hm2 : i + m ≤ n := by have := Int.emod_lt_of_pos z1 (show (0 : Int) < (n : Int) - (i : Int) + 1 by omega); omega
  have HNL := Lib.hid (fun _ : Unit => hn)
  have hmx := hr.len
  rw [bs_len, hn] at hmx
  have hel : Tryd.prog.underlying 30 = some (.slice (Tryd.prog.elem 30)) := by kernel_rfl
  have hsz : ∀ w, (sizeOf (Tryd.prog.elem 30)).run Tryd.prog w = .ok 1 w := fun w => by kernel_rfl
  have hlv : ∀ w', (Builtin.len_ #[30] 3 #[v]).run Tryd.prog w' = .ok (goInt n) w' := by
    have := len_fact hr (ty := 3) hel
    rwa [bs_len, hn] at this
  obtain ⟨v0, hv0, _, _, s01, s02, _, _⟩ := sub_fact hr hel hsz 0 i (by omega) (by rw [bs_len]; omega)
  obtain ⟨v1, hv1, s11, s12, _, _, _, _⟩ := sub_fact hr hel hsz i (i + m) (by omega) (by rw [bs_len]; omega)
  obtain ⟨v2, hv2, _, _, _, _, s21, s22⟩ := sub_fact hr hel hsz (i + m) n (by omega) (by rw [bs_len]; omega)
  replace s01 := s01 rfl
  replace s02 := s02 rfl
  replace s21 := s21 (by rw [bs_len]; omega)
  replace s22 := s22 (by rw [bs_len]; omega)
  rw [Int.natCast_add] at s11 s12 s21 s22
  have HV0 := Lib.hid (show Rd w v0 (bs (xs.take i)) from by simpa [bs] using hv0)
  have HV1 := Lib.hid (show Rd w v1 (bs ((xs.drop i).take m)) from by simpa [bs, List.map_take, List.map_drop] using hv1)
  have HV2 := Lib.hid (show Rd w v2 (bs (xs.drop (i + m))) from by
    rw [List.take_of_length_le (by rw [List.length_drop, bs_len, hn]; exact Nat.le_refl _)] at hv2
    simpa [bs, List.map_drop] using hv2)
  clear hv0 hv1 hv2 hel hsz hr
  simp only [List.map_cons, List.map_nil]
  clear hzw hn
  go_enter Tryd.func7, Tryd.ntmps7
  go_upto_region 1 with fail
  have b1 : Blk ((w.alloc (.cells (atV key c nonce).toArray 26)).alloc (.cells #[.int .u16 z0, .int .u16 z1] 47)) B (atV key c nonce) 26 := (Blk.mk_ _ hB.symm rfl).al _
  have d1 : Blk ((w.alloc (.cells (atV key c nonce).toArray 26)).alloc (.cells #[.int .u16 z0, .int .u16 z1] 47)) (B + 1) [.int .u16 z0, .int .u16 z1] 47 := Blk.mk_ _ (by simp [hB]) rfl
  have bb : Below B w ((w.alloc (.cells (atV key c nonce).toArray 26)).alloc (.cells #[.int .u16 z0, .int .u16 z1] 47)) := bw_al (bw_al (Below.refl _ _) (by omega) _) (by simp; omega) _
  have bt : Tab ((w.alloc (.cells (atV key c nonce).toArray 26)).alloc (.cells #[.int .u16 z0, .int .u16 z1] 47)) := (ht.al _).al _
  have hd1 := HD.out.stay bb (by omega)
  generalize ((w.alloc (.cells (atV key c nonce).toArray 26)).alloc (.cells #[.int .u16 z0, .int .u16 z1] 47)) = w1 at *
  have hBw := d1.lt
  by_cases hl : 2000 < n
  · go_wp2_with (go_at_call 18; refine (awake02_any _).mono ?_; rintro e w' ⟨rfl, rfl⟩)
    all_goals go_ret
    exact ⟨rfl, by rw [hB]; exact bb⟩
  have HT := Lib.hid bt
  have HT0 := Lib.hid ht
  have HD1 := Lib.hid hd1
  clear hd1 bt ht
  have e0 := b1.at_ 32 (H0.out ())
  have e1 := d1.at_ 0 rfl
  have e2 := d1.at_ 1 rfl
  go_upto_region 6 with (first
    | (refine wp_load_sub rfl 22 (.tmp 41) rfl rfl (b1.part 0 (P0.out ())) Tryd.underlying22 rfl (n := 32) (by kernel_rfl) (by rw [bs_len, HK.out]) ?_)
    | (refine wp_load_sub rfl 24 (.tmp 45) rfl rfl (b1.part 33 (P1.out ())) Tryd.underlying24 rfl (n := 12) (by kernel_rfl) (by rw [bs_len, HN.out]) ?_)
    | (go_at_call 23; refine (chxor_any _ key nonce c _ xs HK.out HN.out HKB.out HNB.out hc HD1.out HX.out HT.out (by have := HNL.out (); omega)).mono ?_; rintro e w3 ⟨va, rfl, hra, hb3, _⟩))
  have b3 := b1.stay hb3
  have bb3 : Below B w w3 := bw_then bb hb3 (by omega)
  have hs3 := b3.lt
  have e3 := b3.at_ 32 (H0.out ())
  by_cases hle : (xs.length : Int) ≤ room c
  · have hdt : decide ((xs.length : Int) ≤ room c) = true := decide_eq_true hle
    simp only [hdt]
    rw [xorAll, if_pos hle] at hra
    have HLE := Lib.hid (fun _ : Unit => hle)
    have HRA := Lib.hid hra
    have HT3 := Lib.hid (HT.out.stay hb3)
    have HD3 := Lib.hid (HD1.out.stay hb3 (Nat.le_refl _))
    clear hle hra e0 e1 e2
    go_upto_region 9 with (first
      | (refine wp_load_sub rfl 22 (.tmp 59) rfl rfl (b3.part 0 (P0.out ())) Tryd.underlying22 rfl (n := 32) (by kernel_rfl) (by rw [bs_len, HK.out]) ?_)
      | (refine wp_load_sub rfl 24 (.tmp 63) rfl rfl (b3.part 33 (P1.out ())) Tryd.underlying24 rfl (n := 12) (by kernel_rfl) (by rw [bs_len, HN.out]) ?_)
      | (go_at_call 19; refine (newstream_any _ key nonce c HK.out HN.out hc).mono ?_; rintro e w4 ⟨g, rfl, hg, hst, hb4⟩))
    have HST := Lib.hid hst
    clear hst
    have hln := HNL.out ()
    have hbB3 := bb3.mono (Nat.le_of_eq hB)
    have hlr : (n : Int) ≤ room c := by have := HLE.out (); omega
    have l0 : (xs.take i).length = i := by rw [List.length_take]; omega
    have HS0 := Lib.hid (sxor_ok w w4 g key nonce c 0 _ v0 (xs.take i) HK.out HN.out HKB.out HNB.out hc (bw_then hbB3 hb4 (by omega)) (by omega) HT0.out HV0.out (fun z hz => HX.out z (List.mem_of_mem_take hz)) HST.out (by omega) (by omega))
    rw [l0] at HS0
    clear l0 hln
    go_upto_region 10 with (go_at_call 20; refine HS0.out.mono ?_; rintro e w5 ⟨o1, rest1, rfl, ho1, hg1, hbo1, hst1, htu1, hb5⟩)
    have HST1 := Lib.hid hst1
    have hln := HNL.out ()
    have l1 : ((xs.drop i).take m).length = m := by rw [List.length_take, List.length_drop]; omega
    have HS1 := Lib.hid (sxor_ok w w5 g key nonce c (0 + i) _ v1 ((xs.drop i).take m) HK.out HN.out HKB.out HNB.out hc hb5 (by omega) HT0.out HV1.out (fun z hz => HX.out z (List.mem_of_mem_drop (List.mem_of_mem_take hz))) HST1.out (by omega) (by omega))
    rw [l1] at HS1
    clear l1 hln hst1
    go_upto_region 11 with (go_at_call 20; refine HS1.out.mono ?_; rintro e w6 ⟨o2, rest2, rfl, ho2, hg2, hbo2, hst2, htu2, hb6⟩)
    have HST2 := Lib.hid hst2
    have hln := HNL.out ()
    have l2 : (xs.drop (i + m)).length = n - (i + m) := by rw [List.length_drop]; omega
    have HS2 := Lib.hid (sxor_ok w w6 g key nonce c (0 + i + m) _ v2 (xs.drop (i + m)) HK.out HN.out HKB.out HNB.out hc hb6 (by omega) HT0.out HV2.out (fun z hz => HX.out z (List.mem_of_mem_drop hz)) HST2.out (by omega) (by omega))
    rw [l2] at HS2
    clear l2 hln hst2
    go_upto_region 12 with (go_at_call 20; refine HS2.out.mono ?_; rintro e w7 ⟨o3, rest3, rfl, ho3, hg3, hbo3, hst3, htu3, hb7⟩)
    have bw7 : Below w3.heap.size w3 w7 := Turns.below hb4 ((htu1.trans htu2).trans htu3) hb4.size (fun j hj => by omega)
    have hB1 := hbo1.turns htu2 hg1
    have hB2 := hbo2.turns htu3 hg2
    have R1 := Lib.hid (fun w' (h : Below w7.heap.size w7 w') => show Rd w' (.slice (some ⟨o1, 0, none⟩) i i) _ from by
      have := Rd.of_blk ((hB1.turns htu3 hg1).stay h) (by rw [bs_len, xorL_len]; omega); rwa [bs_len, xorL_len] at this)
    have R2 := Lib.hid (fun w' (h : Below w7.heap.size w7 w') => show Rd w' (.slice (some ⟨o2, 0, none⟩) m m) _ from by
      have := Rd.of_blk (hB2.stay h) (by rw [bs_len, xorL_len]; omega); rwa [bs_len, xorL_len] at this)
    have R3 := Lib.hid (fun w' (h : Below w7.heap.size w7 w') => show Rd w' (.slice (some ⟨o3, 0, none⟩) (n - (i + m)) (n - (i + m))) _ from by
      have := Rd.of_blk (hbo3.stay h) (by rw [bs_len, xorL_len]; omega); rwa [bs_len, xorL_len] at this)
    have RA := Lib.hid (fun w' (h : Below w7.heap.size w7 w') => (HRA.out.stay bw7 (Nat.le_refl _)).stay h (Nat.le_refl _))
    have hcat : xorL key nonce c 0 (xs.take i) i ++ xorL key nonce c (0 + i) ((xs.drop i).take m) m ++ xorL key nonce c (0 + i + m) (xs.drop (i + m)) (n - (i + m)) = xorL key nonce c 0 xs xs.length := by
      have hln := HNL.out ()
      have q0 : (xs.take i).length = i := by rw [List.length_take]; omega
      have q1 : ((xs.drop i).take m).length = m := by rw [List.length_take, List.length_drop]; omega
      have q2 : (xs.drop (i + m)).length = n - (i + m) := by rw [List.length_drop]; omega
      have e1 := xorL_append key nonce c 0 (xs.take i) ((xs.drop i).take m)
      have e2 := xorL_append key nonce c 0 (xs.take i ++ (xs.drop i).take m) (xs.drop (i + m))
      rw [List.length_append, q0, q1] at e1
      rw [List.length_append, List.length_append, q0, q1, q2, e1, ← Nat.add_assoc] at e2
      have e3 : xs.take i ++ (xs.drop i).take m ++ xs.drop (i + m) = xs := by rw [List.append_assoc, ← List.drop_drop, List.take_append_drop, List.take_append_drop]
      rw [e3] at e2
      rw [← e2, show i + m + (n - (i + m)) = xs.length by omega]
    have hIB := xorL_isB key nonce c 0 HX.out xs.length
    have k1 := xorL_len key nonce c 0 (xs.take i) i
    have k2 := xorL_len key nonce c (0 + i) ((xs.drop i).take m) m
    have k3 := xorL_len key nonce c (0 + i + m) (xs.drop (i + m)) (n - (i + m))
    generalize xorL key nonce c 0 (xs.take i) i = X1 at *
    generalize xorL key nonce c (0 + i) ((xs.drop i).take m) m = X2 at *
    generalize xorL key nonce c (0 + i + m) (xs.drop (i + m)) (n - (i + m)) = X3 at *
    generalize xorL key nonce c 0 xs xs.length = Y at *
    have KK := Lib.hid (fun _ : Unit => (⟨k1, k2, k3, hcat, hIB⟩ : X1.length = i ∧ X2.length = m ∧ X3.length = n - (i + m) ∧ X1 ++ X2 ++ X3 = Y ∧ IsB Y))
    have e1 : eqB Y Y = true := by simp [eqB]
    clear hbo1 hbo2 hbo3 htu1 htu2 htu3 hst3 hB1 hB2 k1 k2 k3 hcat hIB
    go_wp2_with (first
      | (refine wp_app_g (.tmp 94) (.tmp 95) 30 rfl rfl 5 (.int .u8 0) 1 Tryd.underlying30 info5 rfl w7.heap.size rfl (own_empty w7 _) rfl (R1.out _ (bw_al (Below.refl _ _) (Nat.le_refl _) _)) (bs_one _) (by decide) (by rw [bs_len]; have := KK.out (); omega) (by simp) ?_; intro v8 w8 hown8 hb8)
      | (refine wp_app_g (.tmp 96) (.tmp 97) 30 rfl rfl 5 (.int .u8 0) 1 Tryd.underlying30 info5 rfl w7.heap.size rfl hown8 rfl (R2.out _ (Below.trans (bw_al (Below.refl _ _) (Nat.le_refl _) _) hb8)) (bs_one _) (by decide) (by rw [bs_len, bs_len]; have := KK.out (); omega) (by have := hb8.size; simp at this; omega) ?_; intro v9 w9 hown9 hb9)
      | (refine wp_app_g (.tmp 98) (.tmp 99) 30 rfl rfl 5 (.int .u8 0) 1 Tryd.underlying30 info5 rfl w7.heap.size rfl hown9 rfl (R3.out _ ((Below.trans (bw_al (Below.refl _ _) (Nat.le_refl _) _) hb8).trans hb9)) (bs_one _) (by decide) (by rw [bs_len, bs_len, bs_len]; have := KK.out (); omega) (by have := hb8.size; have := hb9.size; simp at *; omega) ?_; intro v10 w10 hown10 hb10)
      | (go_at_call 16; have hb11 := ((Below.trans (bw_al (Below.refl w7.heap.size w7) (Nat.le_refl _) _) hb8).trans hb9).trans hb10; refine (equal_any _ _ Y Y _ (RA.out _ hb11) (show Rd w10 v10 (bs Y) from by have := Rd.of_own hown10; rwa [List.nil_append, ← bs_append, ← bs_append, (KK.out ()).2.2.2.1] at this) (KK.out ()).2.2.2.2 (KK.out ()).2.2.2.2).mono ?_; rintro ee w11 ⟨rfl, hw11⟩; subst hw11)
      | (go_at_call 18; refine (awake02_any _).mono ?_; rintro e' w9 ⟨rfl, hw9⟩; subst hw9))
    all_goals go_ret
    exact ⟨rfl, bw_then hb7 hb11 hb7.size⟩
  · have hdf : decide ((xs.length : Int) ≤ room c) = false := decide_eq_false hle
    simp only [hdf]
    rw [xorAll, if_neg hle] at hra
    clear hle
    obtain ⟨Aa, ca, rfl, q1, q2, q3, q4⟩ := hra
    unfold maxLen at q2
    go_wp2_with (go_at_call 18; refine (awake02_any _).mono ?_; rintro e' w9 ⟨rfl, hw9⟩; subst hw9)
    all_goals go_ret
    exact ⟨rfl, by rw [hB]; exact bb3⟩

set_option maxRecDepth 100000 in
theorem contract (H : Type) (enc : TypeId × Value → H) (W : World) (base : Nat) (args : Array Value) (ds gs : List (DataW H)) (before : List MemPlace)
    (hval : ∀ (j : Nat) t v, Tryd.f7.params[j]? = some t → args[j]? = some v → Value.okWide Tryd.prog W .any base t v)
    (hW : DataW.Whole enc Tryd.prog Tryd.f7.params.toList Rows.chachaPiecesSpec.vars false W args.toList ds gs before) (hL : laidMetH Tryd.prog Rows.chachaPiecesRow.laid W) :
    Calls Tryd.prog 7 args W fun e W' => ∃ v, e = .returned v ∧ Rows.chachaPiecesSpec.post enc Tryd.prog Tryd.f7 false true false false W args v W' := by
  have hW' := hW
  obtain ⟨p, q, hA0, hV, rfl, hfz, hnd⟩ := hW
  have hA : DataW.TrodAll enc Tryd.prog W 0 (fun _ => true) true Tryd.f7.params.toList args.toList ds p := hA0
  rw [Tryd.params7] at hA hval
  obtain ⟨v0, vs0, d0, ds0, p0, q0, hargs0, rfl, rfl, h0, r0⟩ := trodAll_cons hA
  obtain ⟨v1, vs1, d1, ds1, p1, q1, hargs1, e1, rfl, h1, r1⟩ := trodAll_cons r0
  subst e1
  obtain ⟨v2, vs2, d2, ds2, p2, q2, hargs2, e2, rfl, h2, r2⟩ := trodAll_cons r1
  subst e2
  obtain ⟨e9, e8, e7⟩ := trodAll_nil r2
  subst e9 e8 e7
  obtain rfl : args = #[v0, v1, v2] := by cases args; simp_all
  obtain ⟨rfl, rfl⟩ := trodVars_none hV
  have hv0 := hval 0 _ v0 rfl rfl
  have hv1 := hval 1 _ v1 rfl rfl
  have hv2 := hval 2 _ v2 rfl rfl
  clear hA0
  obtain ⟨fuel0, hf0⟩ := h0
  obtain ⟨fuel1, hf1⟩ := h1
  obtain ⟨fuel2, hf2⟩ := h2
  obtain ⟨key0, c0, nonce0, hk0, hn0, hkb0, hnb0, hc0, hcs0⟩ := at_of_trod hf0
  obtain ⟨x0, rfl⟩ : ∃ cs, v0 = .agg cs := by simp only [Value.okWide] at hv0; obtain ⟨cs, h, _⟩ := hv0; exact ⟨cs, h⟩
  obtain rfl : x0 = (atV key0 c0 nonce0).toArray := by apply Array.toList_inj.1; simpa [Value.cells] using hcs0
  rw [one_of_ok Tryd.underlying30 rfl hv1] at hf1
  obtain ⟨u1, xs1, hcs1, hb1, hr1⟩ := bytes_of_trod hf1
  obtain rfl : v1 = u1 := by simpa using hcs1
  obtain ⟨z2, hl2, hcs2, hw2⟩ := trod_arr_ints Tryd.underlying47 Tryd.underlying46 (show Tryd.prog.cellsOf 46 = 1 by kernel_rfl) (show Tryd.prog.cellsOf 47 = 2 by kernel_rfl) hf2
  obtain ⟨x2, rfl⟩ : ∃ cs, v2 = .agg cs := by simp only [Value.okWide] at hv2; obtain ⟨cs, h, _⟩ := hv2; exact ⟨cs, h⟩
  obtain rfl : x2 = (z2.map (Value.int .u16)).toArray := by apply Array.toList_inj.1; simpa [Value.cells] using hcs2
  refine (walk W key0 nonce0 c0 v1 xs1 z2 hl2 hw2 hk0 hn0 hkb0 hnb0 hc0 hr1 hb1 (tab_of_laid hL)).mono fun e W' ⟨he, hb⟩ => ⟨_, he, ?_⟩
  exact law_post Tryd.laidOut (by kernel_rfl) (by kernel_rfl) Tryd.underlying4 rfl rfl rfl rfl hW' hb

/-- A WORLD FOR THE WITNESS: the settled one, the table (block 0) holding what its initialiser lays. -/
noncomputable def laidWorld (os : Os) : World :=
  { World.holding Tryd.prog os ⟨#[], #[], []⟩ with heap := (World.holding Tryd.prog os ⟨#[], #[], []⟩).heap.modify 0 fun
      | .cells _ t frozen => .cells (ns rowsL).toArray t frozen
      | o => o }
def wit : Array Value := #[.agg (atV (List.replicate 32 0) 0 (List.replicate 12 0)).toArray, .slice none 0 0, .agg (List.replicate 2 (Value.int .u16 0)).toArray]
theorem laid_met (os : Os) : laidMet Tryd.prog Rows.chachaPiecesRow.laid ((laidWorld os).forCall (fun _ _ => 0) ⟨#[], wit, []⟩).memory :=
  laidMet_of_run' 8 (by kernel_rfl) (by kernel_rfl)
theorem reads (os : Os) {H : Type} (enc : TypeId × Value → H) : ∃ ds places, DataW.whole enc Tryd.prog ((laidWorld os).forCall (fun _ _ => 0) ⟨#[], wit, []⟩).memory Tryd.f7.params.toList Rows.chachaPiecesSpec.vars false wit.toList 8 = some (ds, [], places) :=
  ⟨[.agg [.agg (List.replicate 32 (.lit (.int .u8 0))), .lit (.int .u32 0), .agg (List.replicate 12 (.lit (.int .u8 0)))], .nil, .agg (List.replicate 2 (.lit (.int .u16 0)))], [], by kernel_rfl⟩

set_option maxRecDepth 100000 in
theorem lifted (os : Os) (started : os.Started) (H : Type) (enc : TypeId × Value → H) (F : Stop.Interp) :
    ReturnsInHanded {} Tryd.checked os 7 .any ((OpenSpec.ofChange Rows.chachaPiecesSpec).preRow enc Tryd.prog Tryd.f7 Rows.chachaPiecesRow.domain false Rows.chachaPiecesRow.laid) (((OpenSpec.ofChange Rows.chachaPiecesSpec).at F).post enc Tryd.prog Tryd.f7 false true false false) := by
  obtain ⟨ds, places, hx⟩ := reads os enc
  refine returnsInHanded_of_row (C := Tryd.checked) (s := OpenSpec.ofChange Rows.chachaPiecesSpec) Tryd.own started (by kernel_rfl) Tryd.func7
    (witness_row_at (enc := enc) (C := Tryd.checked) false (laidWorld os) wit rfl (by kernel_rfl) (by kernel_rfl) (by kernel_rfl)
      (OpenSpec.preRow_of_cond 8 hx (by kernel_rfl) (fun k hk => by cases hk) (by kernel_rfl) (laid_met os))) ?_
  intro W base args ds gs before hval hW _ _ _ hL _ _
  exact contract H enc W base args ds gs before hval hW hL

theorem said : Rows.ChachaPiecesSaid :=
  OpenClaim.holds_of_cond 7 Tryd.f7 rfl rfl rfl rfl rfl rfl rfl ⟨rfl, rfl, rfl, rfl, rfl⟩ rfl rfl rfl rfl rfl (by kernel_rfl) Tryd.func7 (by kernel_rfl)
    (of_decide_eq_true (by kernel_rfl)) (by unfold Func.isWrapper; first | (rw [if_pos (by decide +kernel)]; kernel_rfl) | (rw [if_neg (by decide +kernel)]; exact ⟨rfl, rfl⟩))
    (fun os started H enc _ F => by rw [OpenClaim.pre_eq_preRow]; exact lifted os started H enc F)

/-- No parameter wants a stand-in; the program's own looks are off. -/
theorem plain (f : FuncId) (fn : Func) (hf : Tryd.pinned.checked.prog.funcNamed "intaglio/intagliolaw02.ChachaPieces" = some f) (hfn : Tryd.pinned.checked.prog.funcs[f]? = some fn) :
    false = Tryd.pinned.checked.prog.looks [] ∧ ∀ (j : Nat) t, fn.params[j]? = some t → Tryd.pinned.checked.prog.wantsStandIn t = false := by
  obtain rfl : f = 7 := Option.some.inj ((show Tryd.prog.funcNamed "intaglio/intagliolaw02.ChachaPieces" = some 7 by kernel_rfl).symm.trans hf) |>.symm
  obtain rfl : fn = Tryd.f7 := (Option.some.inj (Tryd.func7.symm.trans hfn)).symm
  refine ⟨by kernel_rfl, fun j t ht => ?_⟩
  rw [Tryd.params7] at ht
  have hall : (#[26, 30, 47].toList.all fun u => !Tryd.prog.wantsStandIn u) = true := by kernel_rfl
  exact (show Tryd.prog.wantsStandIn t = false by simpa using List.all_eq_true.1 hall t (by simpa using Array.mem_of_getElem? ht))

/-- THE CARD. -/
theorem proved : Rows.ChachaPiecesCardSaid :=
  Claim7.holds_tied_plain_at .later [] _ _ _ _ said (fun _ h => by cases h) (by kernel_rfl) (fun _ h => by cases h) chachaPieces_row_tie rfl ⟨rfl, rfl⟩ (by kernel_rfl) rfl plain (by kernel_rfl)
end Go.Proofs.YtmjjnaaiakchhaaDoor.lawChachaPieces
