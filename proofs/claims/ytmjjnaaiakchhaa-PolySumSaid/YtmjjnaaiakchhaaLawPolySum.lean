/-
  The statement PolySum: the program's tag is the document's, and the data stays as it was.
-/
import Derived.Test.YtmjjnaaiakchhaaAwakeP
import Derived.Test.YtmjjnaaiakchhaaEls
namespace Go.Proofs.Ytmjjnaaiakchhaa.lawPolySum
open Go.ChangeShapes Go.WideShapes Go.ChangeAt Go.RowKit

set_option maxRecDepth 100000 in
set_option maxHeartbeats 2000000 in
theorem walk (w : World) (key : List Int) (v : Value) (xs : List Int) (hk : key.length = 32) (hkb : IsB key) (hr : Rd w v (bs xs)) (hb : IsB xs) :
    Calls Try.prog 9 #[.agg (bs key).toArray, v] w fun e w' => e = .returned (.bool true) ∧ Below w.heap.size w w' := by
  have HK := Lib.hid hk
  have HKB := Lib.hid hkb
  have HD := Lib.hid hr
  have HX := Lib.hid hb
  obtain ⟨A, cap, rfl, hc1, hc2, h0, h3⟩ := hr
  rw [bs_len] at HD hc1 ⊢
  unfold maxLen at hc2
  clear hk hkb hb h0 h3
  obtain ⟨B, hB⟩ : ∃ B, w.heap.size = B := ⟨_, rfl⟩
  go_enter Try.func9, Try.ntmps9
  go_upto_region 1 with fail
  have b1 : Blk (w.alloc (.cells (bs key).toArray 29)) B (bs key) 29 := Blk.mk_ _ hB.symm rfl
  have bb : Below B w (w.alloc (.cells (bs key).toArray 29)) := bw_al (Below.refl _ _) (by omega) _
  have hd1 := HD.out.stay bb (by omega)
  generalize w.alloc (.cells (bs key).toArray 29) = w1 at *
  have hBw := b1.lt
  by_cases hl : 1000 < xs.length
  · go_wp2_with (go_at_call 13; refine (awake03_any _).mono ?_; rintro e w' ⟨rfl, hb'⟩)
    all_goals go_ret
    exact ⟨rfl, by rw [hB]; exact bw_then bb hb' (by omega)⟩
  go_upto_region 4 with (go_at_call 20; refine (clone_any _ xs _ hd1 (by omega)).mono ?_; rintro e w2 ⟨vc, rfl, hb2, hw2⟩)
  have b2 := b1.stay hb2
  have bb2 : Below B w w2 := bw_then bb hb2 (by omega)
  have hd2 := hd1.stay hb2 (Nat.le_refl _)
  have hc2 : Rd w2 vc (bs xs) := Rd.of_own hw2
  have hs2 := b2.lt
  have HC := Lib.hid hc2
  have HD2 := Lib.hid hd2
  have HP := Lib.hid (fun w v hd => polysum_any w key xs v HK.out HKB.out hd HX.out (by omega))
  have HR := Lib.hid (fun w v hd => sum03_any w v key xs HK.out HKB.out hd HX.out (by omega))
  have ke := eq16 (tagL key xs) (tagL key xs) (tagL_len _ _) (tagL_len _ _)
  rw [show (tagL key xs == tagL key xs) = true by simp] at ke
  have HE := Lib.hid (fun w v h1 h2 => equal_any v vc xs xs w h1 h2 HX.out HX.out)
  rw [show eqB xs xs = true by simp [eqB]] at HE
  clear hd1 hw2 hc2 hd2 HD
  generalize tagL key xs = T at *
  have kl := load_fact b2 29 0 (ys := bs key) (by rw [List.drop_zero, List.take_length]) Try.underlying29 rfl (n := 32) (by kernel_rfl) (by rw [bs_len, HK.out])
  have hbl0 : Below w2.heap.size w2 w2.drew := bw_d1 (Below.refl _ _)
  refine region_plan ⟨[0, 0, 3, 0, 0, 31, 63, 127, 255, 255, 1023, 2047, 4095, 8191, 16383, 32767], [2, 5, 10, 13], [0, 0, 0, 0, 0, 1, 2, 2, 2, 2, 2, 3, 3, 3, 4, 4]⟩
    [⟨[0, 1, 3, 4], [0, 3], some 2⟩, ⟨[], [3], some 5⟩, ⟨[6, 7, 8, 9], [6], some 10⟩, ⟨[11, 12], [], some 13⟩, ⟨[14, 15], [], none⟩] 27 (by kernel_rfl) (by kernel_rfl) (by kernel_rfl) (by kernel_rfl) rfl ?_
  simp only [SeqGo, opsAt_cons, opsAt_nil, List.getElem?_cons, Option.toList_some, List.singleton_append, ↓reduceIte, Nat.reduceEqDiff, Nat.reduceSub]
  go_wp2_with (refine wp_load_f rfl 29 (.tmp 2) rfl rfl (kl _ (by assumption)) ?_)
  refine ⟨⟨same_load rfl 29 (.tmp 2) rfl rfl (kl _ (by assumption)) rfl, same_load rfl 29 (.tmp 2) rfl rfl (kl _ (by assumption)) rfl, trivial⟩, ?_⟩
  go_wp2_with (go_at_call 18; refine (HP.out _ _ (HD2.out.stay hbl0 (Nat.le_refl _))).mono ?_; rintro e w3 ⟨rfl, hb3⟩; have hbl3 : Below w2.heap.size w2 w3 := bw_then hbl0 hb3 (Nat.le_refl _); clear hb3)
  refine ⟨⟨same_load rfl 29 (.tmp 2) rfl rfl (kl _ (by assumption)) rfl, trivial⟩, ?_⟩
  go_wp2_with (go_at_call 17; refine (HR.out _ _ (HC.out.stay hbl3 (Nat.le_refl _))).mono ?_; rintro e w4 ⟨rfl, hb4⟩; have hbl4 : Below w2.heap.size w2 w4 := bw_then hbl3 hb4 hbl3.size; clear hb4)
  refine ⟨by (simp only [Sames, Same]; go_simp), ?_⟩
  go_wp2_with (go_at_call 21; refine (HE.out _ _ (HD2.out.stay hbl4 (Nat.le_refl _)) (HC.out.stay hbl4 (Nat.le_refl _))).mono ?_; rintro e w5 ⟨rfl, hw5⟩; subst hw5)
  refine ⟨by (simp only [Sames]; try go_simp), ?_⟩
  go_wp2_with (go_at_call 13; refine (awake03_any _).mono ?_; rintro e w6 ⟨rfl, hb6⟩; have hbl6 : Below w2.heap.size w2 w6 := bw_then hbl4 hb6 hbl4.size; clear hb6)
  refine ⟨by (simp only [Sames]; try go_simp), ?_⟩
  go_wp2_with fail
  all_goals go_ret
  exact ⟨rfl, by rw [hB]; exact bw_then bb2 hbl6 (by omega)⟩

set_option maxRecDepth 100000 in
theorem contract (H : Type) (enc : TypeId × Value → H) (W : World) (base : Nat) (args : Array Value) (ds gs : List (DataW H)) (before : List MemPlace)
    (hval : ∀ (j : Nat) t v, Try.f9.params[j]? = some t → args[j]? = some v → Value.okWide Try.prog W .any base t v)
    (hW : DataW.Whole enc Try.prog Try.f9.params.toList Rows.polySumSpec.vars false W args.toList ds gs before) :
    Calls Try.prog 9 args W fun e W' => ∃ v, e = .returned v ∧ Rows.polySumSpec.post enc Try.prog Try.f9 false true false false W args v W' := by
  have hW' := hW
  obtain ⟨p, q, hA0, hV, rfl, hfz, hnd⟩ := hW
  have hA : DataW.TrodAll enc Try.prog W 0 (fun _ => true) true Try.f9.params.toList args.toList ds p := hA0
  rw [Try.params9] at hA hval
  obtain ⟨v0, vs0, d0, ds0, p0, q0, hargs0, rfl, rfl, h0, r0⟩ := trodAll_cons hA
  obtain ⟨v1, vs1, d1, ds1, p1, q1, hargs1, e1, rfl, h1, r1⟩ := trodAll_cons r0
  subst e1
  obtain ⟨e9, e8, e7⟩ := trodAll_nil r1
  subst e9 e8 e7
  obtain rfl : args = #[v0, v1] := by cases args; simp_all
  obtain ⟨rfl, rfl⟩ := trodVars_none hV
  have hv0 := hval 0 _ v0 rfl rfl
  have hv1 := hval 1 _ v1 rfl rfl
  clear hA0
  obtain ⟨fuel0, hf0⟩ := h0
  obtain ⟨fuel1, hf1⟩ := h1
  obtain ⟨z0, hl0, hcs0, hw0⟩ := trod_arr_ints Try.underlying29 Try.underlying5 (show Try.prog.cellsOf 5 = 1 by kernel_rfl) (show Try.prog.cellsOf 29 = 32 by kernel_rfl) hf0
  obtain ⟨x0, rfl⟩ : ∃ cs, v0 = .agg cs := by simp only [Value.okWide] at hv0; obtain ⟨cs, h, _⟩ := hv0; exact ⟨cs, h⟩
  obtain rfl : x0 = (z0.map (Value.int .u8)).toArray := by apply Array.toList_inj.1; simpa [Value.cells] using hcs0
  rw [one_of_ok Try.underlying33 rfl hv1] at hf1
  obtain ⟨u1, xs1, hcs1, hb1, hr1⟩ := bytes_of_trod hf1
  obtain rfl : v1 = u1 := by simpa using hcs1
  refine (walk W z0 v1 xs1 hl0 (fun z hz => byte_of_wf (hw0 z hz)) hr1 hb1).mono fun e W' ⟨he, hb⟩ => ⟨_, he, ?_⟩
  exact law_post Try.laidOut (by kernel_rfl) (by kernel_rfl) Try.underlying4 rfl rfl rfl rfl hW' hb

set_option maxRecDepth 100000 in
theorem lifted (os : Os) (started : os.Started) (H : Type) (enc : TypeId × Value → H) (F : Stop.Interp) :
    ReturnsInHanded {} Try.checked os 9 .any ((OpenSpec.ofChange Rows.polySumSpec).preRow enc Try.prog Try.f9 Rows.polySumRow.domain false Rows.polySumRow.laid) (((OpenSpec.ofChange Rows.polySumSpec).at F).post enc Try.prog Try.f9 false true false false) := by
  obtain ⟨places, hx⟩ : ∃ places, DataW.whole enc Try.prog ((World.holding Try.prog os ⟨#[], #[], []⟩).forCall (fun _ _ => 0) ⟨#[], #[.agg (List.replicate 32 (Value.int .u8 0)).toArray, .slice none 0 0], []⟩).memory Try.f9.params.toList Rows.polySumSpec.vars false #[.agg (List.replicate 32 (Value.int .u8 0)).toArray, .slice none 0 0].toList 8 = some ([.agg (List.replicate 32 (.lit (.int .u8 0))), .nil], [], places) := ⟨[], by kernel_rfl⟩
  refine returnsInHanded_of_row (C := Try.checked) (s := OpenSpec.ofChange Rows.polySumSpec) Try.own started (by kernel_rfl) Try.func9
    (witness_row_at (enc := enc) (C := Try.checked) false (World.holding Try.prog os ⟨#[], #[], []⟩) #[.agg (List.replicate 32 (Value.int .u8 0)).toArray, .slice none 0 0] rfl (by kernel_rfl) (by kernel_rfl) (by kernel_rfl)
      (OpenSpec.preRow_of_cond 8 hx (by kernel_rfl) (fun k hk => by cases hk) (by kernel_rfl) (laid_none _ _))) ?_
  intro W base args ds gs before hval hW _ _ _ _ _ _
  exact contract H enc W base args ds gs before hval hW

theorem proved : Rows.PolySumSaid :=
  OpenClaim.holds_of_cond 9 Try.f9 rfl rfl rfl rfl rfl rfl rfl ⟨rfl, rfl, rfl, rfl, rfl⟩ rfl rfl rfl rfl rfl (by kernel_rfl) Try.func9 (by kernel_rfl)
    (of_decide_eq_true (by kernel_rfl)) (by unfold Func.isWrapper; first | (rw [if_pos (by decide +kernel)]; kernel_rfl) | (rw [if_neg (by decide +kernel)]; exact ⟨rfl, rfl⟩))
    (fun os started H enc _ F => by rw [OpenClaim.pre_eq_preRow]; exact lifted os started H enc F)
end Go.Proofs.Ytmjjnaaiakchhaa.lawPolySum
