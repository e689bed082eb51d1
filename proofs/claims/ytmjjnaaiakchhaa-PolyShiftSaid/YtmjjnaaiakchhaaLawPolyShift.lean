/-
  The statement PolyShift: the last half of the key is added to what the first half makes.
-/
import Derived.Test.YtmjjnaaiakchhaaAwakeP
import Derived.Test.YtmjjnaaiakchhaaEls
import Derived.Test.YtmjjnaaiakchhaaAdd
namespace Go.Proofs.Ytmjjnaaiakchhaa.lawPolyShift
open Go.ChangeShapes Go.WideShapes Go.ChangeAt Go.RowKit

/-- The key without its last half, as far as k bytes. -/
def halfK (key : List Int) (k : Nat) : List Int := rowF 32 fun i => if 16 ≤ i ∧ i < 16 + k then 0 else key.getD i 0
def lastK (key : List Int) (k : Nat) : List Int := rowF 16 fun i => if i < k then key.getD (16 + i) 0 else 0
theorem half_step (key : List Int) (k : Nat) : (halfK key k).set (16 + k) 0 = halfK key (k + 1) := by
  rw [halfK, rowF_set]
  refine rowF_congr fun i hi => ?_
  by_cases h : i = 16 + k
  · rw [if_pos h, if_pos (by omega)]
  · rw [if_neg h]
    by_cases h2 : 16 ≤ i ∧ i < 16 + k
    · rw [if_pos h2, if_pos (by omega)]
    · rw [if_neg h2, if_neg (by omega)]
theorem last_step (key : List Int) (k : Nat) : (lastK key k).set k (key.getD (16 + k) 0) = lastK key (k + 1) := by
  rw [lastK, rowF_set]
  refine rowF_congr fun i hi => ?_
  by_cases h : i = k
  · subst h; rw [if_pos rfl, if_pos (by omega)]
  · rw [if_neg h]
    by_cases h2 : i < k
    · rw [if_pos h2, if_pos (by omega)]
    · rw [if_neg h2, if_neg (by omega)]
theorem tag_shift (key xs : List Int) (hk : key.length = 32) (hkb : IsB key) : lowN (leV (tagL (halfK key 16) xs) + leV (lastK key 16)) 16 = tagL key xs := by
  have e1 : clampL (halfK key 16) = clampL key := clampL_congr fun i hi => by
    have e : (halfK key 16).getD i 0 = key.getD i 0 := by rw [halfK, rowF_get _ _ _ (by omega), if_neg (by omega)]
    rw [e]
  have e2 : (halfK key 16).drop 16 = List.replicate 16 0 := by
    rw [halfK, rowF_drop]
    refine (rowF_congr (g := fun _ => 0) fun i hi => ?_).trans rfl
    rw [if_pos (by omega)]
  have e3 : lastK key 16 = (key.drop 16).take 16 := by
    rw [List.take_of_length_le (by simp [hk])]
    refine Eq.trans ?_ (rowF_self (key.drop 16))
    rw [lastK, List.length_drop, hk]
    refine rowF_congr fun i hi => ?_
    rw [if_pos hi]; simp [List.getD_eq_getElem?_getD]
  have h1 := (hK_range (leV (clampL key)) xs ((xs.length + 15) / 16)).1
  have h2 := (leV_range (xs := (key.drop 16).take 16) fun z hz => hkb z (List.mem_of_mem_drop (List.mem_of_mem_take hz))).1
  rw [tagL, e1, e2, e3, tagL, List.take_replicate, show min 16 16 = 16 from rfl, leV_zeros, Int.add_zero, lowN_add _ _ _ h1 h2]

set_option maxRecDepth 100000 in
set_option maxHeartbeats 2000000 in
theorem walk (w : World) (key : List Int) (v : Value) (xs : List Int) (hk : key.length = 32) (hkb : IsB key) (hr : Rd w v (bs xs)) (hb : IsB xs) :
    Calls Try.prog 6 #[.agg (bs key).toArray, v] w fun e w' => e = .returned (.bool true) ∧ Below w.heap.size w w' := by
  have HK := Lib.hid hk
  have HKB := Lib.hid hkb
  have HD := Lib.hid hr
  have HX := Lib.hid hb
  have hmx := hr.len
  rw [bs_len] at hmx
  have hlv : ∀ w', (Builtin.len_ #[33] 3 #[v]).run Try.prog w' = .ok (goInt xs.length) w' := by
    have := len_fact (P := Try.prog) hr (t := 33) (ty := 3) (by kernel_rfl)
    rwa [bs_len] at this
  clear hk hkb hb hr
  obtain ⟨B, hB⟩ : ∃ B, w.heap.size = B := ⟨_, rfl⟩
  go_enter Try.func6, Try.ntmps6
  go_upto_region 1 with fail
  have b1 : Blk (w.alloc (.cells (bs key).toArray 29)) B (bs key) 29 := Blk.mk_ _ hB.symm rfl
  have bb : Below B w (w.alloc (.cells (bs key).toArray 29)) := bw_al (Below.refl _ _) (by omega) _
  have hz1 : (w.alloc (.cells (bs key).toArray 29)).heap.size = B + 1 := by simp [hB]
  generalize w.alloc (.cells (bs key).toArray 29) = w1 at *
  have hBw := b1.lt
  by_cases hl : 1000 < xs.length
  · go_wp2_with (go_at_call 13; refine (awake03_any _).mono ?_; rintro e w' ⟨rfl, hb'⟩)
    all_goals go_ret
    exact ⟨rfl, by rw [hB]; exact bw_then bb hb' (by omega)⟩
  have B1 := Lib.hid b1
  have HLEN := Lib.hid (show (bs key).length = 32 by rw [bs_len, HK.out])
  go_upto_region 4 with (first
    | (refine wp_load_blk rfl 29 (.tmp 2) rfl rfl b1 Try.underlying29 rfl (n := 32) (by kernel_rfl) HLEN.out ?_)
    | (refine wp_store_blk rfl 29 (.tmp 5) (.tmp 12) rfl rfl rfl (cs' := bs key) (Blk.mk_ (cs := bs (List.replicate 32 0)) _ hz1.symm rfl) (bs_one _) (by rw [HLEN.out]; rfl) (n := 32) (by kernel_rfl) HLEN.out ?_; intro w2 b2 on2))
  have hz2 : w2.heap.size = B + 2 := by rw [on2.size]; simp [hz1]
  have bb2 : Below B w w2 := on2.below (bw_al bb (by omega) _) (by omega)
  have k2 : Blk w2 B (bs key) 29 := (b1.al _).only on2 (by omega)
  clear on2 bb hz1 b1
  go_upto_region 5 with fail
  change Code.wp _ _ _ _ (w2.alloc (.cells (bs (lastK key 0)).toArray 35))
  have b3 : Blk (w2.alloc (.cells (bs (lastK key 0)).toArray 35)) (B + 2) (bs (lastK key 0)) 35 := Blk.mk_ _ hz2.symm rfl
  have k3 := k2.al (.cells (bs (lastK key 0)).toArray 35)
  have h3 := b2.al (.cells (bs (lastK key 0)).toArray 35)
  have bb3 : Below B w (w2.alloc (.cells (bs (lastK key 0)).toArray 35)) := bw_al bb2 (by omega) _
  generalize w2.alloc (.cells (bs (lastK key 0)).toArray 35) = w3 at *
  have hh0 : halfK key 0 = key := by
    refine Eq.trans ?_ (rowF_self key)
    rw [halfK, HK.out]
    exact rowF_congr fun i hi => by rw [if_neg (by omega)]
  rw [← hh0] at h3
  have I0 := Lib.hid (⟨k3, h3, b3, bb3⟩ : Blk w3 B (bs key) 29 ∧ Blk w3 (B + 1) (bs (halfK key 0)) 29 ∧ Blk w3 (B + 2) (bs (lastK key 0)) 35 ∧ Below B w w3)
  clear hh0 h3 b3 k3 bb3 hz2 bb2 k2 b2
  go_wp2_with fail
  go_loopw [7] (fun x wr => ∃ k : Nat, k ≤ 16 ∧ x = .int .i64 k ∧ Blk wr B (bs key) 29 ∧ Blk wr (B + 1) (bs (halfK key k)) 29 ∧ Blk wr (B + 2) (bs (lastK key k)) 35 ∧ Below B w wr) (fun x _ => 16 - (intOf x).toNat)
  case atStart => exact ⟨0, Nat.zero_le _, rfl, I0.out⟩
  case round =>
    obtain ⟨k, hk, rfl, c1, c2, c3, cb⟩ := hrel
    obtain ⟨wo, rfl⟩ : ∃ wo : World, wo = wr := ⟨_, rfl⟩
    clear I0
    by_cases hlt : k < 16
    · have HC := Lib.hid (⟨c1, c2, c3, cb⟩ : Blk wo B (bs key) 29 ∧ Blk wo (B + 1) (bs (halfK key k)) 29 ∧ Blk wo (B + 2) (bs (lastK key k)) 35 ∧ Below B w wo)
      obtain ⟨y, hy⟩ : ∃ y, key.getD (16 + k) 0 = y := ⟨_, rfl⟩
      have e1 : wo.cell? ⟨B, 16 + k, none⟩ = some (.int .u8 y) := by rw [← hy]; exact c1.at_ _ (bs_get _ _ (by rw [HK.out]; omega))
      have e2 : wo.cell? ⟨B + 1, 16 + k, none⟩ = some (.int .u8 ((halfK key k).getD (16 + k) 0)) := c2.at_ _ (bs_get _ _ (by rw [halfK, rowF_len]; omega))
      have e3 : wo.cell? ⟨B + 2, k, none⟩ = some (.int .u8 ((lastK key k).getD k 0)) := c3.at_ _ (bs_get _ _ (by rw [lastK, rowF_len]; omega))
      have f2 := c2.free (16 + k)
      have f3 := c3.free k
      have HY := Lib.hid hy
      clear c1 c2 c3 cb hy
      go_wp2_with fail
      obtain ⟨c1, c2, c3, cb⟩ := HC.out
      refine ⟨⟨k + 1, by omega, by go_num, ?_, ?_, ?_, ?_⟩, by simp [intOf]; omega⟩
      · exact (c1.other (by show B ≠ B + 2; omega) _).other (by show B ≠ B + 1; omega) _
      · have h := (c2.other (a := ⟨B + 2, k, none⟩) (by show B + 1 ≠ B + 2; omega) (.int .u8 y)).set (16 + k) (.int .u8 0)
        rwa [bs_set, half_step] at h
      · have h := (c3.set k (.int .u8 y)).other (a := ⟨B + 1, 16 + k, none⟩) (by show B + 2 ≠ B + 1; omega) (.int .u8 0)
        have e4 := last_step key k
        rw [HY.out] at e4
        rwa [bs_set, e4] at h
      · exact bw_set (bw_set cb _ _ (by omega) _) _ _ (by omega) _
    · obtain rfl : k = 16 := by omega
      have hlh : (bs (halfK key 16)).length = 32 := by rw [bs_len, halfK, rowF_len]
      have hls : (bs (lastK key 16)).length = 16 := by rw [bs_len, lastK, rowF_len]
      have ihb : IsB (halfK key 16) := rowF_isB fun i hi => by split <;> first | exact HKB.out.at_ _ | decide
      have isb : IsB (lastK key 16) := rowF_isB fun i hi => by split <;> first | exact HKB.out.at_ _ | decide
      have kl := load_fact c1 29 0 (ys := bs key) (by rw [List.drop_zero, List.take_length]) Try.underlying29 rfl (n := 32) (by kernel_rfl) HLEN.out
      have kh := load_fact c2 29 0 (ys := bs (halfK key 16)) (by rw [List.drop_zero, List.take_length]) Try.underlying29 rfl (n := 32) (by kernel_rfl) hlh
      have ks := load_fact c3 35 0 (ys := bs (lastK key 16)) (by rw [List.drop_zero, List.take_length]) Try.underlying35 rfl (n := 16) (by kernel_rfl) hls
      have P1 := Lib.hid (fun w v hd => polysum_any w key xs v HK.out HKB.out hd HX.out (by omega))
      have P2 := Lib.hid (fun w v hd => polysum_any w (halfK key 16) xs v (rowF_len _ _) ihb hd HX.out (by omega))
      have P3 := Lib.hid (fun w => add03_any w (tagL (halfK key 16) xs) (lastK key 16) (tagL_len _ _) (rowF_len _ _) (tagL_isB _ _) isb)
      rw [tag_shift key xs HK.out HKB.out] at P3
      have ke := eq16 (tagL key xs) (tagL key xs) (tagL_len _ _) (tagL_len _ _)
      rw [show (tagL key xs == tagL key xs) = true by simp] at ke
      have HD1 := Lib.hid (HD.out.stay cb (by omega))
      have CB := Lib.hid cb
      have hBo : B < wo.heap.size := c1.lt
      clear c1 c2 c3 cb hlh hls ihb isb
      generalize tagL key xs = T1 at *
      generalize tagL (halfK key 16) xs = T2 at *
      generalize halfK key 16 = hf at *
      generalize lastK key 16 = lk at *
      go_upto_region 10 with fail
      have hbl0 : Below wo.heap.size wo wo.drew := bw_d1 (Below.refl _ _)
      refine region_plan ⟨[0, 0, 3, 0, 0, 31, 0, 127, 255, 511, 1023, 2047, 4095], [2, 5, 7, 10], [0, 0, 0, 0, 0, 1, 0, 2, 3, 3, 3, 4, 4]⟩
        [⟨[0, 1, 3, 4, 6], [0, 3, 6], some 2⟩, ⟨[], [3, 6], some 5⟩, ⟨[], [6], some 7⟩, ⟨[8, 9], [8], some 10⟩, ⟨[11, 12], [], none⟩] 38 (by kernel_rfl) (by kernel_rfl) (by kernel_rfl) (by kernel_rfl) rfl ?_
      simp only [SeqGo, opsAt_cons, opsAt_nil, List.getElem?_cons, Option.toList_some, List.singleton_append, ↓reduceIte, Nat.reduceEqDiff, Nat.reduceSub]
      go_wp2_with (first
        | (refine wp_load_f rfl 29 (.tmp 2) rfl rfl (kl _ (by assumption)) ?_)
        | (refine wp_load_f rfl 29 (.tmp 5) rfl rfl (kh _ (by assumption)) ?_)
        | (refine wp_load_f rfl 35 (.tmp 6) rfl rfl (ks _ (by assumption)) ?_))
      refine ⟨⟨same_load rfl 29 (.tmp 2) rfl rfl (kl _ (by assumption)) rfl, same_load rfl 29 (.tmp 5) rfl rfl (kh _ (by assumption)) rfl, same_load rfl 35 (.tmp 6) rfl rfl (ks _ (by assumption)) rfl, trivial⟩, ?_⟩
      go_wp2_with (go_at_call 18; refine (P1.out _ _ (HD1.out.stay hbl0 (Nat.le_refl _))).mono ?_; rintro e w5 ⟨rfl, hb5⟩; have hbl5 : Below wo.heap.size wo w5 := bw_then hbl0 hb5 hbl0.size; clear hb5)
      refine ⟨⟨same_load rfl 29 (.tmp 5) rfl rfl (kh _ (by assumption)) rfl, same_load rfl 35 (.tmp 6) rfl rfl (ks _ (by assumption)) rfl, trivial⟩, ?_⟩
      go_wp2_with (go_at_call 18; refine (P2.out _ _ (HD1.out.stay hbl5 (Nat.le_refl _))).mono ?_; rintro e w6 ⟨rfl, hb6⟩; have hbl6 : Below wo.heap.size wo w6 := bw_then hbl5 hb6 hbl5.size; clear hb6)
      refine ⟨⟨same_load rfl 35 (.tmp 6) rfl rfl (ks _ (by assumption)) rfl, trivial⟩, ?_⟩
      go_wp2_with (go_at_call 19; refine (P3.out _).mono ?_; rintro e w7 ⟨rfl, hb7⟩; have hbl7 : Below wo.heap.size wo w7 := bw_then hbl6 hb7 hbl6.size; clear hb7)
      refine ⟨by (simp only [Sames, Same]; go_simp), ?_⟩
      go_wp2_with (go_at_call 13; refine (awake03_any _).mono ?_; rintro e w8 ⟨rfl, hb8⟩; have hbl8 : Below wo.heap.size wo w8 := bw_then hbl7 hb8 hbl7.size; clear hb8)
      refine ⟨by (simp only [Sames]; try go_simp), ?_⟩
      go_wp2_with fail
      all_goals go_ret
      exact ⟨rfl, by rw [hB]; exact bw_then CB.out hbl8 (by omega)⟩

set_option maxRecDepth 100000 in
theorem contract (H : Type) (enc : TypeId × Value → H) (W : World) (base : Nat) (args : Array Value) (ds gs : List (DataW H)) (before : List MemPlace)
    (hval : ∀ (j : Nat) t v, Try.f6.params[j]? = some t → args[j]? = some v → Value.okWide Try.prog W .any base t v)
    (hW : DataW.Whole enc Try.prog Try.f6.params.toList Rows.polyShiftSpec.vars false W args.toList ds gs before) :
    Calls Try.prog 6 args W fun e W' => ∃ v, e = .returned v ∧ Rows.polyShiftSpec.post enc Try.prog Try.f6 false true false false W args v W' := by
  have hW' := hW
  obtain ⟨p, q, hA0, hV, rfl, hfz, hnd⟩ := hW
  have hA : DataW.TrodAll enc Try.prog W 0 (fun _ => true) true Try.f6.params.toList args.toList ds p := hA0
  rw [Try.params6] at hA hval
  obtain ⟨v0, vs0, d0, ds0, p0, q0, hargs0, rfl, rfl, h0, r0⟩ := trodAll_cons hA
  obtain ⟨v1, vs1, d1, ds1, p1, q1, hargs1, e1, rfl, h1, r1⟩ := trodAll_cons r0
  subst e1
  obtain ⟨e9, e8, e7⟩ := trodAll_nil r1
  subst e9 e8 e7
  obtain rfl : args = #[v0, v1] := by cases args; simp_all
  obtain ⟨rfl, rfl⟩ := trodVars_none hV
  have hv0 := hval 0 _ v0 rfl rfl
  have hv1 := hval 1 _ v1 rfl rfl
  clear hA0
  obtain ⟨fuel0, hf0⟩ := h0
  obtain ⟨fuel1, hf1⟩ := h1
  obtain ⟨z0, hl0, hcs0, hw0⟩ := trod_arr_ints Try.underlying29 Try.underlying5 (show Try.prog.cellsOf 5 = 1 by kernel_rfl) (show Try.prog.cellsOf 29 = 32 by kernel_rfl) hf0
  obtain ⟨x0, rfl⟩ : ∃ cs, v0 = .agg cs := by simp only [Value.okWide] at hv0; obtain ⟨cs, h, _⟩ := hv0; exact ⟨cs, h⟩
  obtain rfl : x0 = (z0.map (Value.int .u8)).toArray := by apply Array.toList_inj.1; simpa [Value.cells] using hcs0
  rw [one_of_ok Try.underlying33 rfl hv1] at hf1
  obtain ⟨u1, xs1, hcs1, hb1, hr1⟩ := bytes_of_trod hf1
  obtain rfl : v1 = u1 := by simpa using hcs1
  refine (walk W z0 v1 xs1 hl0 (fun z hz => byte_of_wf (hw0 z hz)) hr1 hb1).mono fun e W' ⟨he, hb⟩ => ⟨_, he, ?_⟩
  exact law_post Try.laidOut (by kernel_rfl) (by kernel_rfl) Try.underlying4 rfl rfl rfl rfl hW' hb

set_option maxRecDepth 100000 in
theorem lifted (os : Os) (started : os.Started) (H : Type) (enc : TypeId × Value → H) (F : Stop.Interp) :
    ReturnsInHanded {} Try.checked os 6 .any ((OpenSpec.ofChange Rows.polyShiftSpec).preRow enc Try.prog Try.f6 Rows.polyShiftRow.domain false Rows.polyShiftRow.laid) (((OpenSpec.ofChange Rows.polyShiftSpec).at F).post enc Try.prog Try.f6 false true false false) := by
  obtain ⟨places, hx⟩ : ∃ places, DataW.whole enc Try.prog ((World.holding Try.prog os ⟨#[], #[], []⟩).forCall (fun _ _ => 0) ⟨#[], #[.agg (List.replicate 32 (Value.int .u8 0)).toArray, .slice none 0 0], []⟩).memory Try.f6.params.toList Rows.polyShiftSpec.vars false #[.agg (List.replicate 32 (Value.int .u8 0)).toArray, .slice none 0 0].toList 8 = some ([.agg (List.replicate 32 (.lit (.int .u8 0))), .nil], [], places) := ⟨[], by kernel_rfl⟩
  refine returnsInHanded_of_row (C := Try.checked) (s := OpenSpec.ofChange Rows.polyShiftSpec) Try.own started (by kernel_rfl) Try.func6
    (witness_row_at (enc := enc) (C := Try.checked) false (World.holding Try.prog os ⟨#[], #[], []⟩) #[.agg (List.replicate 32 (Value.int .u8 0)).toArray, .slice none 0 0] rfl (by kernel_rfl) (by kernel_rfl) (by kernel_rfl)
      (OpenSpec.preRow_of_cond 8 hx (by kernel_rfl) (fun k hk => by cases hk) (by kernel_rfl) (laid_none _ _))) ?_
  intro W base args ds gs before hval hW _ _ _ _ _ _
  exact contract H enc W base args ds gs before hval hW

theorem proved : Rows.PolyShiftSaid :=
  OpenClaim.holds_of_cond 6 Try.f6 rfl rfl rfl rfl rfl rfl rfl ⟨rfl, rfl, rfl, rfl, rfl⟩ rfl rfl rfl rfl rfl (by kernel_rfl) Try.func6 (by kernel_rfl)
    (of_decide_eq_true (by kernel_rfl)) (by unfold Func.isWrapper; first | (rw [if_pos (by decide +kernel)]; kernel_rfl) | (rw [if_neg (by decide +kernel)]; exact ⟨rfl, rfl⟩))
    (fun os started H enc _ F => by rw [OpenClaim.pre_eq_preRow]; exact lifted os started H enc F)
end Go.Proofs.Ytmjjnaaiakchhaa.lawPolyShift
