/-
  The statement PolyPieces: two pieces written one behind the other give the tag of the whole.
-/
import Derived.Test.YtmjjnaaiakchhaaAwakeP
import Derived.Test.YtmjjnaaiakchhaaEls
namespace Go.Proofs.Ytmjjnaaiakchhaa.lawPolyPieces
open Go.ChangeShapes Go.WideShapes Go.ChangeAt Go.RowKit

set_option maxRecDepth 100000 in
set_option maxHeartbeats 2000000 in
theorem walk (w : World) (key : List Int) (v : Value) (xs : List Int) (z : Int) (hk : key.length = 32) (hkb : IsB key) (hr : Rd w v (bs xs)) (hb : IsB xs) (hz0 : 0 ≤ z) (hz1 : z < 65536) :
    Calls Try.prog 5 #[.agg (bs key).toArray, v, .int .u16 z] w fun e w' => e = .returned (.bool true) ∧ Below w.heap.size w w' := by
  have HK := Lib.hid hk
  have HKB := Lib.hid hkb
  have HD := Lib.hid hr
  have HX := Lib.hid hb
  clear hk hkb hb
  obtain ⟨B, hB⟩ : ∃ B, w.heap.size = B := ⟨_, rfl⟩
  obtain ⟨n, hn⟩ : ∃ n, xs.length = n := ⟨_, rfl⟩
  obtain ⟨i, hi⟩ : ∃ i : Nat, z % ((n : Int) + 1) = i := ⟨(z % ((n : Int) + 1)).toNat, by have := Int.emod_nonneg z (show (n : Int) + 1 ≠ 0 by omega); omega⟩
  have hi2 : i ≤ n := by have := Int.emod_lt_of_pos z (show (0 : Int) < (n : Int) + 1 by omega); omega
  have HNL := Lib.hid (fun _ : Unit => hn)
  have hmx := hr.len
  rw [bs_len, hn] at hmx
  have hel : Try.prog.underlying 33 = some (.slice (Try.prog.elem 33)) := by kernel_rfl
  have hsz : ∀ w, (sizeOf (Try.prog.elem 33)).run Try.prog w = .ok 1 w := fun w => by kernel_rfl
  have hlv : ∀ w', (Builtin.len_ #[33] 3 #[v]).run Try.prog w' = .ok (goInt n) w' := by
    have := len_fact hr (ty := 3) hel
    rwa [bs_len, hn] at this
  obtain ⟨v0, hv0, _, _, s01, s02, _, _⟩ := sub_fact hr hel hsz 0 i (by omega) (by rw [bs_len]; omega)
  obtain ⟨v1, hv1, _, _, _, _, s11, s12⟩ := sub_fact hr hel hsz i n (by omega) (by rw [bs_len]; omega)
  replace s01 := s01 rfl
  replace s02 := s02 rfl
  replace s11 := s11 (by rw [bs_len]; omega)
  replace s12 := s12 (by rw [bs_len]; omega)
  have HV0 := Lib.hid (show Rd w v0 (bs (xs.take i)) from by simpa [bs] using hv0)
  have HV1 := Lib.hid (show Rd w v1 (bs (xs.drop i)) from by
    rw [List.take_of_length_le (by rw [List.length_drop, bs_len, hn]; exact Nat.le_refl _)] at hv1
    simpa [bs, List.map_drop] using hv1)
  clear hv0 hv1 hel hsz hr hn
  go_enter Try.func5, Try.ntmps5
  go_upto_region 1 with fail
  have b1 : Blk (w.alloc (.cells (bs key).toArray 29)) B (bs key) 29 := Blk.mk_ _ hB.symm rfl
  have bb : Below B w (w.alloc (.cells (bs key).toArray 29)) := bw_al (Below.refl _ _) (by omega) _
  generalize w.alloc (.cells (bs key).toArray 29) = w1 at *
  have hBw := b1.lt
  by_cases hl : 1000 < n
  · go_wp2_with (go_at_call 13; refine (awake03_any _).mono ?_; rintro e w' ⟨rfl, hb'⟩)
    all_goals go_ret
    exact ⟨rfl, by rw [hB]; exact bw_then bb hb' (by omega)⟩
  have NW := Lib.hid (new_any w1 key HK.out HKB.out)
  go_upto_region 5 with (first
    | (refine wp_load_blk rfl 29 (.tmp 3) rfl rfl b1 Try.underlying29 rfl (n := 32) (by kernel_rfl) (by rw [bs_len, HK.out]) ?_)
    | (go_at_call 14; refine NW.out.mono ?_; rintro e w2 ⟨g, rfl, hg, hm2, hb2⟩))
  have b2 := b1.stay hb2
  have bb2 : Below B w w2 := bw_then bb hb2 (by omega)
  have hx1 : IsB (xs.take i) := fun z hz => HX.out z (List.mem_of_mem_take hz)
  have hx2 : IsB (xs.drop i) := fun z hz => HX.out z (List.mem_of_mem_drop hz)
  have WR1 := Lib.hid (write_any w2 g key [] (xs.take i) v0 HKB.out hm2 (HV0.out.stay bb2 (by omega)) hx1 (fun z hz => by simp at hz) (by have := HNL.out (); simp; omega))
  rw [List.nil_append] at WR1
  have B1 := Lib.hid b1
  clear hm2 b1
  go_upto_region 6 with (go_at_call 15; refine WR1.out.mono ?_; rintro e w3 ⟨rfl, hm3, ht3⟩)
  have hbl3 : Below w1.heap.size w1 w3 := Turns.below hb2 ht3 hb2.size (fun j hj => by rcases hj with rfl | h; exact hg; exact h.elim)
  have SM1 := Lib.hid (macsum_any w3 g key (xs.take i) HKB.out hx1 HK.out hm3)
  have HM3 := Lib.hid (hm3.clip.mono (T := fun b => b ≠ g ∧ w2.heap.size ≤ b ∧ b < w3.heap.size) fun b hb => ⟨by omega, hb.1.elim False.elim id, hb.2.2⟩)
  clear hm3 WR1
  go_upto_region 7 with (first
    | (go_at_call 16; refine SM1.out.mono ?_; rintro e w4 ⟨rfl, hb4⟩)
    | (refine wp_store_blk rfl 35 (.tmp 9) (.tmp 28) rfl rfl rfl (cs' := bs (tagL key (xs.take i))) (Blk.mk_ (cs := bs (List.replicate 16 0)) _ rfl rfl) (bs_one _) (by rw [bs_len, tagL_len]; rfl) (n := 16) (by kernel_rfl) (by rw [bs_len, tagL_len]) ?_; intro w5 b5 on5))
  have hs4 := hb4.size
  have hbl5 : Below w3.heap.size w3 w5 := on5.below (bw_al hb4 (by omega) _) (by omega)
  have hgl : g < w3.heap.size := HM3.out.lt
  have hm5 := HM3.out.stay hbl5
  have hbl15 := bw_then hbl3 hbl5 hbl3.size
  have hn5 := HNL.out ()
  have WR2 := Lib.hid (write_any w5 g key (xs.take i) (xs.drop i) v1 HKB.out hm5 (HV1.out.stay (bw_then bb hbl15 (by omega)) (by omega)) hx2 hx1 (by rw [List.length_take, List.length_drop]; omega))
  rw [List.take_append_drop] at WR2
  have B5 := Lib.hid b5
  clear b5 hm5 b2
  go_upto_region 8 with (go_at_call 15; refine WR2.out.mono ?_; rintro e w6 ⟨rfl, hm6, ht6⟩)
  have hbl6 : Below w1.heap.size w1 w6 := Turns.below hbl15 ht6 hbl15.size (fun j hj => by have := hb2.size; rcases hj with rfl | h; exact hg; have := h.2.1; omega)
  have b6 := B5.out.turns ht6 (fun h => by rcases h with h | h <;> omega)
  have SM2 := Lib.hid (fun w' hb => macsum_any w' g key xs HKB.out HX.out HK.out (hm6.stay (w' := w') hb))
  have hbk := B1.out.stay hbl6
  have HV6 := Lib.hid (HV0.out.stay (bw_then bb hbl6 (by omega)) (by omega))
  have HD6 := Lib.hid (HD.out.stay (bw_then bb hbl6 (by omega)) (by omega))
  have P1 := Lib.hid (fun w v hd => polysum_any w key (xs.take i) v HK.out HKB.out hd hx1 (by have := HNL.out (); simp; omega))
  have P2 := Lib.hid (fun w v hd => polysum_any w key xs v HK.out HKB.out hd HX.out (by have := HNL.out (); omega))
  have ke1 := eq16 (tagL key (xs.take i)) (tagL key (xs.take i)) (tagL_len _ _) (tagL_len _ _)
  rw [show (tagL key (xs.take i) == tagL key (xs.take i)) = true by simp] at ke1
  have ke2 := eq16 (tagL key xs) (tagL key xs) (tagL_len _ _) (tagL_len _ _)
  rw [show (tagL key xs == tagL key xs) = true by simp] at ke2
  have tl1 : (bs (tagL key (xs.take i))).length = 16 := by rw [bs_len, tagL_len]
  have kf := load_fact b6 35 0 (ys := bs (tagL key (xs.take i))) (by rw [List.drop_zero, List.take_length]) Try.underlying35 rfl (n := 16) (by kernel_rfl) tl1
  have kl := load_fact hbk 29 0 (ys := bs key) (by rw [List.drop_zero, List.take_length]) Try.underlying29 rfl (n := 32) (by kernel_rfl) (by rw [bs_len, HK.out])
  clear hm6 ht6 b6 hbk tl1 B5 hg hb2 HM3 HV0 HV1 HD s11 s12
  generalize tagL key (xs.take i) = T1 at *
  generalize tagL key xs = T2 at *
  generalize w4.heap.size = g4 at *
  have hbl0 : Below w6.heap.size w6 w6.drew := bw_d1 (Below.refl _ _)
  refine region_plan ⟨[0, 0, 0, 0, 12, 30, 63, 127, 255, 511, 255, 255, 4095, 8191, 16383, 32767, 65535, 131071, 262143], [5, 9, 12, 16], [0, 0, 0, 0, 0, 0, 1, 1, 1, 1, 1, 1, 2, 3, 3, 3, 3, 4, 4]⟩
    [⟨[0, 1, 2, 3, 4], [0, 1, 4], some 5⟩, ⟨[6, 7, 8, 10, 11], [0, 6, 10], some 9⟩, ⟨[], [10], some 12⟩, ⟨[13, 14, 15], [13], some 16⟩, ⟨[17, 18], [], none⟩] 52 (by kernel_rfl) (by kernel_rfl) (by kernel_rfl) (by kernel_rfl) rfl ?_
  simp only [SeqGo, opsAt_cons, opsAt_nil, List.getElem?_cons, Option.toList_some, List.singleton_append, ↓reduceIte, Nat.reduceEqDiff, Nat.reduceSub]
  go_wp2_with (first
    | (refine wp_load_f rfl 29 (.tmp 3) rfl rfl (kl _ (by assumption)) ?_)
    | (refine wp_load_f rfl 35 (.tmp 9) rfl rfl (kf _ (by assumption)) ?_))
  refine ⟨⟨same_load rfl 35 (.tmp 9) rfl rfl (kf _ (by assumption)) rfl, same_load rfl 29 (.tmp 3) rfl rfl (kl _ (by assumption)) rfl, by (simp only [Same]; go_simp), trivial⟩, ?_⟩
  go_wp2_with (first
    | (go_at_call 18; refine (P1.out _ _ (HV6.out.stay hbl0 (Nat.le_refl _))).mono ?_; rintro e w7 ⟨rfl, hb7⟩; have hbl7 : Below w6.heap.size w6 w7 := bw_then hbl0 hb7 (Nat.le_refl _); clear hb7)
    | (refine wp_load_f rfl 29 (.tmp 3) rfl rfl (kl _ (by assumption)) ?_))
  refine ⟨⟨same_load rfl 35 (.tmp 9) rfl rfl (kf _ (by assumption)) rfl, by (simp only [Same]; go_simp), same_load rfl 29 (.tmp 3) rfl rfl (kl _ (by assumption)) rfl, trivial⟩, ?_⟩
  go_wp2_with (go_at_call 16; refine (SM2.out _ hbl7).mono ?_; rintro e w8 ⟨rfl, hb8⟩; have hbl8 : Below w6.heap.size w6 w8 := bw_then hbl7 hb8 hbl7.size; clear hb8)
  refine ⟨⟨same_load rfl 29 (.tmp 3) rfl rfl (kl _ (by assumption)) rfl, trivial⟩, ?_⟩
  go_wp2_with (go_at_call 18; refine (P2.out _ _ (HD6.out.stay hbl8 (Nat.le_refl _))).mono ?_; rintro e w9 ⟨rfl, hb9⟩; have hbl9 : Below w6.heap.size w6 w9 := bw_then hbl8 hb9 hbl8.size; clear hb9)
  refine ⟨by (simp only [Sames, Same]; go_simp), ?_⟩
  go_wp2_with (go_at_call 13; refine (awake03_any _).mono ?_; rintro e w10 ⟨rfl, hb10⟩; have hbl10 : Below w6.heap.size w6 w10 := bw_then hbl9 hb10 hbl9.size; clear hb10)
  refine ⟨by (simp only [Sames]; try go_simp), ?_⟩
  go_wp2_with fail
  all_goals go_ret
  exact ⟨rfl, by rw [hB]; exact bw_then bb (bw_then hbl6 hbl10 hbl6.size) (by omega)⟩

set_option maxRecDepth 100000 in
theorem contract (H : Type) (enc : TypeId × Value → H) (W : World) (base : Nat) (args : Array Value) (ds gs : List (DataW H)) (before : List MemPlace)
    (hval : ∀ (j : Nat) t v, Try.f5.params[j]? = some t → args[j]? = some v → Value.okWide Try.prog W .any base t v)
    (hW : DataW.Whole enc Try.prog Try.f5.params.toList Rows.polyPiecesSpec.vars false W args.toList ds gs before) :
    Calls Try.prog 5 args W fun e W' => ∃ v, e = .returned v ∧ Rows.polyPiecesSpec.post enc Try.prog Try.f5 false true false false W args v W' := by
  have hW' := hW
  obtain ⟨p, q, hA0, hV, rfl, hfz, hnd⟩ := hW
  have hA : DataW.TrodAll enc Try.prog W 0 (fun _ => true) true Try.f5.params.toList args.toList ds p := hA0
  rw [Try.params5] at hA hval
  obtain ⟨v0, vs0, d0, ds0, p0, q0, hargs0, rfl, rfl, h0, r0⟩ := trodAll_cons hA
  obtain ⟨v1, vs1, d1, ds1, p1, q1, hargs1, e1, rfl, h1, r1⟩ := trodAll_cons r0
  subst e1
  obtain ⟨v2, vs2, d2, ds2, p2, q2, hargs2, e2, rfl, h2, r2⟩ := trodAll_cons r1
  subst e2
  obtain ⟨e9, e8, e7⟩ := trodAll_nil r2
  subst e9 e8 e7
  obtain rfl : args = #[v0, v1, v2] := by cases args; simp_all
  obtain ⟨rfl, rfl⟩ := trodVars_none hV
  have hv0 := hval 0 _ v0 rfl rfl
  have hv1 := hval 1 _ v1 rfl rfl
  have hv2 := hval 2 _ v2 rfl rfl
  clear hA0
  obtain ⟨fuel0, hf0⟩ := h0
  obtain ⟨fuel1, hf1⟩ := h1
  obtain ⟨fuel2, hf2⟩ := h2
  obtain ⟨z0, hl0, hcs0, hw0⟩ := trod_arr_ints Try.underlying29 Try.underlying5 (show Try.prog.cellsOf 5 = 1 by kernel_rfl) (show Try.prog.cellsOf 29 = 32 by kernel_rfl) hf0
  obtain ⟨x0, rfl⟩ : ∃ cs, v0 = .agg cs := by simp only [Value.okWide] at hv0; obtain ⟨cs, h, _⟩ := hv0; exact ⟨cs, h⟩
  obtain rfl : x0 = (z0.map (Value.int .u8)).toArray := by apply Array.toList_inj.1; simpa [Value.cells] using hcs0
  rw [one_of_ok Try.underlying33 rfl hv1] at hf1
  obtain ⟨u1, xs1, hcs1, hb1, hr1⟩ := bytes_of_trod hf1
  obtain rfl : v1 = u1 := by simpa using hcs1
  rw [one_of_ok Try.underlying39 rfl hv2] at hf2
  obtain ⟨z2, hcs2, hlo2, hhi2⟩ := int_of_trod Try.underlying39 hf2
  obtain rfl : v2 = .int .u16 z2 := by simpa using hcs2
  refine (walk W z0 v1 xs1 z2 hl0 (fun z hz => byte_of_wf (hw0 z hz)) hr1 hb1 hlo2 (Int.lt_of_le_of_lt hhi2 (by decide))).mono fun e W' ⟨he, hb⟩ => ⟨_, he, ?_⟩
  exact law_post Try.laidOut (by kernel_rfl) (by kernel_rfl) Try.underlying4 rfl rfl rfl rfl hW' hb

set_option maxRecDepth 100000 in
theorem lifted (os : Os) (started : os.Started) (H : Type) (enc : TypeId × Value → H) (F : Stop.Interp) :
    ReturnsInHanded {} Try.checked os 5 .any ((OpenSpec.ofChange Rows.polyPiecesSpec).preRow enc Try.prog Try.f5 Rows.polyPiecesRow.domain false Rows.polyPiecesRow.laid) (((OpenSpec.ofChange Rows.polyPiecesSpec).at F).post enc Try.prog Try.f5 false true false false) := by
  obtain ⟨places, hx⟩ : ∃ places, DataW.whole enc Try.prog ((World.holding Try.prog os ⟨#[], #[], []⟩).forCall (fun _ _ => 0) ⟨#[], #[.agg (List.replicate 32 (Value.int .u8 0)).toArray, .slice none 0 0, .int .u16 0], []⟩).memory Try.f5.params.toList Rows.polyPiecesSpec.vars false #[.agg (List.replicate 32 (Value.int .u8 0)).toArray, .slice none 0 0, .int .u16 0].toList 8 = some ([.agg (List.replicate 32 (.lit (.int .u8 0))), .nil, .lit (.int .u16 0)], [], places) := ⟨[], by kernel_rfl⟩
  refine returnsInHanded_of_row (C := Try.checked) (s := OpenSpec.ofChange Rows.polyPiecesSpec) Try.own started (by kernel_rfl) Try.func5
    (witness_row_at (enc := enc) (C := Try.checked) false (World.holding Try.prog os ⟨#[], #[], []⟩) #[.agg (List.replicate 32 (Value.int .u8 0)).toArray, .slice none 0 0, .int .u16 0] rfl (by kernel_rfl) (by kernel_rfl) (by kernel_rfl)
      (OpenSpec.preRow_of_cond 8 hx (by kernel_rfl) (fun k hk => by cases hk) (by kernel_rfl) (laid_none _ _))) ?_
  intro W base args ds gs before hval hW _ _ _ _ _ _
  exact contract H enc W base args ds gs before hval hW

theorem proved : Rows.PolyPiecesSaid :=
  OpenClaim.holds_of_cond 5 Try.f5 rfl rfl rfl rfl rfl rfl rfl ⟨rfl, rfl, rfl, rfl, rfl⟩ rfl rfl rfl rfl rfl (by kernel_rfl) Try.func5 (by kernel_rfl)
    (of_decide_eq_true (by kernel_rfl)) (by unfold Func.isWrapper; first | (rw [if_pos (by decide +kernel)]; kernel_rfl) | (rw [if_neg (by decide +kernel)]; exact ⟨rfl, rfl⟩))
    (fun os started H enc _ F => by rw [OpenClaim.pre_eq_preRow]; exact lifted os started H enc F)
end Go.Proofs.Ytmjjnaaiakchhaa.lawPolyPieces
