/-
  The statement PolyMacs: whatever is written, piece by piece, the sum at each point is that of all that was.
-/
import Derived.Test.YtmjjnaaiakchhaaAwakeP
import Derived.Test.YtmjjnaaiakchhaaEls
namespace Go.Proofs.Ytmjjnaaiakchhaa.lawPolyMacs
open Go.ChangeShapes Go.WideShapes Go.ChangeAt Go.RowKit

set_option maxRecDepth 100000 in
set_option maxHeartbeats 2000000 in
theorem walk (w : World) (key : List Int) (v : Value) (n : Nat) (f : Nat → List Value) (hk : key.length = 32) (hkb : IsB key) (he : Els w v n 1 f) (hf : ∀ i, i < n → ∃ u xs, f i = [u] ∧ IsB xs ∧ Rd w u (bs xs)) :
    Calls Try.prog 4 #[.agg (bs key).toArray, v] w fun e w' => e = .returned (.bool true) ∧ Below w.heap.size w w' := by
  have HK := Lib.hid hk
  have HKB := Lib.hid hkb
  have HF := Lib.hid hf
  obtain ⟨A, cap, rfl, hnc, hcm, _, h3⟩ := he
  have H3 := Lib.hid h3
  unfold maxLen at hcm
  clear hk hkb hf h3
  obtain ⟨B, hB⟩ : ∃ B, w.heap.size = B := ⟨_, rfl⟩
  go_enter Try.func4, Try.ntmps4
  go_upto_region 1 with fail
  have b1 : Blk (w.alloc (.cells (bs key).toArray 29)) B (bs key) 29 := Blk.mk_ _ hB.symm rfl
  have bb : Below B w (w.alloc (.cells (bs key).toArray 29)) := bw_al (Below.refl _ _) (by omega) _
  generalize w.alloc (.cells (bs key).toArray 29) = w1 at *
  have hBw := b1.lt
  by_cases hl : 12 < n
  · go_wp2_with (go_at_call 13; refine (awake03_any _).mono ?_; rintro e w' ⟨rfl, hb'⟩)
    all_goals go_ret
    exact ⟨rfl, by rw [hB]; exact bw_then bb hb' (by omega)⟩
  have B1 := Lib.hid b1
  have BB := Lib.hid bb
  have NW := Lib.hid (new_any w1 key HK.out HKB.out)
  go_upto_region 4 with (first
    | (refine wp_load_blk rfl 29 (.tmp 2) rfl rfl b1 Try.underlying29 rfl (n := 32) (by kernel_rfl) (by rw [bs_len, HK.out]) ?_)
    | (go_at_call 14; refine NW.out.mono ?_; rintro e w2 ⟨g, rfl, hg, hm2, hb2⟩))
  have hgl := hm2.lt
  have HM2 := Lib.hid hm2
  have HB2 := Lib.hid hb2
  have hs2 := hb2.size
  have kl := load_fact B1.out 29 0 (ys := bs key) (by rw [List.drop_zero, List.take_length]) Try.underlying29 rfl (n := 32) (by kernel_rfl) (by rw [bs_len, HK.out])
  clear hm2 hb2 b1 bb
  go_wp2_with fail
  go_loopw [6, 7] (fun x i wr => ∃ (k : Nat) (xs : List Int) (S : Nat → Prop) (va : Value), k ≤ n ∧ i = .int .i64 k ∧ va = x ∧ Mac wr g key xs S ∧ (∀ b, S b → w1.heap.size ≤ b) ∧ Part wr w2.heap.size 5 va (bs xs) ∧ (∀ b, S b → ¬ hold va b) ∧ IsB xs ∧ xs.length ≤ 100 * k ∧ w2.heap.size ≤ wr.heap.size ∧ Below w1.heap.size w1 wr) (fun _ i _ => n - (intOf i).toNat)
  case atStart => exact ⟨0, [], _, _, Nat.zero_le _, rfl, rfl, HM2.out, fun b h => h.elim, Part.nil _ _ _, fun b h => h.elim, (fun z hz => by simp at hz), Nat.zero_le _, Nat.le_refl _, HB2.out⟩
  case round =>
    obtain ⟨k, xs, S, x, hk, rfl, rfl, hm, hS1, hp, hSp, hxs, hxl, hs2r, hbl⟩ := hrel
    obtain ⟨wo, rfl⟩ : ∃ wo : World, wo = wr := ⟨_, rfl⟩
    have HM := Lib.hid hm
    have HP := Lib.hid hp
    have HS1 := Lib.hid hS1
    have HSP := Lib.hid hSp
    have HXS := Lib.hid hxs
    have hsz := hbl.size
    clear hm hp hS1 hSp hxs
    by_cases hlt : k < n
    · obtain ⟨u, ys, hfu, hys, hru⟩ := HF.out k hlt
      obtain ⟨b, o, rfl, hbw, hcs⟩ := H3.out (by omega)
      have hcell := (hcs k hlt).2 0 (by decide)
      rw [hfu] at hcell
      simp only [Nat.mul_one, Nat.add_zero, List.getElem?_cons_zero] at hcell
      have kc : ∀ w', Below w1.heap.size w1 w' → w'.cell? ⟨b, o + k, none⟩ = some u := fun w' h =>
        (h.cell (p := ⟨b, o + k, none⟩) (by show b < _; have := BB.out.size; omega)).trans ((BB.out.cell (p := ⟨b, o + k, none⟩) (by show b < B; omega)).trans hcell)
      have kc1 := kc wo hbl
      have hmx := hru.len
      rw [bs_len] at hmx
      have hlu : ∀ w', (Builtin.len_ #[33] 3 #[u]).run Try.prog w' = .ok (goInt ys.length) w' := by
        have := len_fact (P := Try.prog) hru (t := 33) (ty := 3) (by kernel_rfl)
        rwa [bs_len] at this
      have HRU := Lib.hid hru
      have HYS := Lib.hid hys
      clear hfu hcs hcell hru hys
      by_cases hly : 100 < ys.length
      · go_wp2_with (go_at_call 13; refine (awake03_any _).mono ?_; rintro e w' ⟨rfl, hb'⟩)
        all_goals go_ret
        exact ⟨rfl, by rw [hB]; exact bw_then BB.out (bw_then hbl hb' hsz) (by omega)⟩
      have hru0 := HRU.out.stay (bw_then BB.out hbl (by omega)) (by omega)
      have WR := Lib.hid (write_any wo g key xs ys u HKB.out HM.out hru0 HYS.out HXS.out (by omega))
      clear hru0
      go_upto_region 11 with (go_at_call 15; refine WR.out.mono ?_; rintro e w3 ⟨rfl, hm3, ht3⟩)
      have hbl3 : Below w1.heap.size w1 w3 := Turns.below hbl ht3 hsz (fun j hj => by rcases hj with rfl | h; exact hg; exact HS1.out _ h)
      have hp3 : Part w3 w2.heap.size 5 x (bs xs) := HP.out.move fun g' off n' c hv => by
        have hl' := HP.out.lt g' off n' c hv
        exact ht3.block g' hl'.2 (fun h => by rcases h with h | h; omega; exact HSP.out _ h ⟨_, _, _, hv⟩)
      have hru3 := HRU.out.stay (bw_then BB.out hbl3 (by omega)) (by omega)
      have kc3 := kc w3 hbl3
      have hsz3 := ht3.size
      clear kc1
      have HM3 := Lib.hid hm3.clip
      have HBL3 := Lib.hid hbl3
      clear hm3 ht3 hbl3
      go_upto_region 12 with (at_builtin; refine wp_app_part (.tmp 33) (.tmp 37) 33 rfl rfl 5 (.int .u8 0) 1 Try.underlying33 info5 rfl w2.heap.size rfl hp3 rfl hru3 (bs_one _) (by decide) (by rw [bs_len, bs_len]; omega) (by omega) ?_; intro x2 w4 hp4 ht4 hh4)
      have HM4 := Lib.hid (HM3.out.turns ht4 (fun h => by have := hp3.lt _ _ _ _ h.choose_spec.choose_spec.choose_spec; omega) (fun b' hb' h => by
        rcases hb'.1 with h1 | h1
        · exact HSP.out _ h1 h
        · have := HP.out.lt _ _ _ _ h.choose_spec.choose_spec.choose_spec
          omega))
      have hsz4 := ht4.size
      have hbl4 : Below w1.heap.size w1 w4 := Turns.below HBL3.out ht4 HBL3.out.size (fun j h => by have := hp3.lt _ _ _ _ h.choose_spec.choose_spec.choose_spec; omega)
      rw [← bs_append] at hp4
      have HXY := Lib.hid (show IsB (xs ++ ys) from fun z hz => by
        rcases List.mem_append.1 hz with hz | hz
        · exact HXS.out z hz
        · exact HYS.out z hz)
      have HLL := Lib.hid (fun _ : Unit => (show (xs ++ ys).length ≤ 100 * (k + 1) from by rw [List.length_append]; omega))
      have SM := Lib.hid (fun w' hb => macsum_any w' g key (xs ++ ys) HKB.out HXY.out HK.out (HM4.out.stay (w' := w') hb))
      have RS := Lib.hid (fun w v hd => sum03_any w v key (xs ++ ys) HK.out HKB.out hd HXY.out (by have := HLL.out (); omega))
      have HP4 := Lib.hid hp4
      have HH4 := Lib.hid hh4
      have HBL4 := Lib.hid hbl4
      have ke := eq16 (tagL key (xs ++ ys)) (tagL key (xs ++ ys)) (tagL_len _ _) (tagL_len _ _)
      rw [show (tagL key (xs ++ ys) == tagL key (xs ++ ys)) = true by simp] at ke
      clear hp4 hh4 hp3 ht4 hru3 kc kc3 hlu hbl hbl4
      generalize tagL key (xs ++ ys) = T1 at *
      have hbl0 : Below w4.heap.size w4 w4.drew := bw_d1 (Below.refl _ _)
      refine region_plan ⟨[0, 1, 0, 0, 15, 31], [1, 4], [0, 0, 0, 0, 1, 2]⟩
        [⟨[0, 2, 3], [2], some 1⟩, ⟨[], [2], some 4⟩, ⟨[5], [5], none⟩] 54 (by kernel_rfl) (by kernel_rfl) (by kernel_rfl) (by kernel_rfl) rfl ?_
      simp only [SeqGo, opsAt_cons, opsAt_nil, List.getElem?_cons, Option.toList_some, List.singleton_append, ↓reduceIte, Nat.reduceEqDiff, Nat.reduceSub]
      go_wp2_with (refine wp_load_f rfl 29 (.tmp 2) rfl rfl (kl _ (bw_then HBL4.out (by assumption) HBL4.out.size)) ?_)
      refine ⟨⟨same_load rfl 29 (.tmp 2) rfl rfl (kl _ (bw_then HBL4.out (by assumption) HBL4.out.size)) rfl, trivial⟩, ?_⟩
      go_wp2_with (go_at_call 16; refine (SM.out _ hbl0).mono ?_; rintro e w5 ⟨rfl, hb5⟩; have hbl5 : Below w4.heap.size w4 w5 := bw_then hbl0 hb5 hbl0.size; clear hb5)
      refine ⟨⟨same_load rfl 29 (.tmp 2) rfl rfl (kl _ (bw_then HBL4.out (by assumption) HBL4.out.size)) rfl, trivial⟩, ?_⟩
      go_wp2_with (go_at_call 17; refine (RS.out _ _ (HP4.out.rd.stay hbl5 (Nat.le_refl _))).mono ?_; rintro e w6 ⟨rfl, hb6⟩; have hbl6 : Below w4.heap.size w4 w6 := bw_then hbl5 hb6 hbl5.size; clear hb6)
      refine ⟨by (simp only [Sames, Same]; go_simp), ?_⟩
      go_wp2_with fail
      have hsz6 := hbl6.size
      refine ⟨⟨k + 1, xs ++ ys, _, x2, by omega, by go_num, rfl, HM4.out.stay hbl6, fun b' hb' => ?_, HP4.out.stay hbl6, fun b' hb' h => ?_, HXY.out, HLL.out (), by omega, bw_then HBL4.out hbl6 HBL4.out.size⟩, by simp [intOf]; omega⟩
      · rcases hb'.1 with h1 | h1
        · exact HS1.out _ h1
        · omega
      · obtain ⟨off, n', c, hv⟩ := h
        rcases HH4.out _ _ _ _ hv with h1 | h1
        · have := hb'.2.2
          omega
        · rcases hb'.1 with h2 | h2
          · exact HSP.out _ h2 h1
          · have := HP.out.lt _ _ _ _ h1.choose_spec.choose_spec.choose_spec
            omega
    · obtain rfl : k = n := by omega
      have SM := Lib.hid (fun w' hb => macsum_any w' g key xs HKB.out HXS.out HK.out (HM.out.stay (w' := w') hb))
      have RS := Lib.hid (fun w v hd => sum03_any w v key xs HK.out HKB.out hd HXS.out (by omega))
      have ke := eq16 (tagL key xs) (tagL key xs) (tagL_len _ _) (tagL_len _ _)
      rw [show (tagL key xs == tagL key xs) = true by simp] at ke
      generalize tagL key xs = T1 at *
      have HBL := Lib.hid hbl
      clear hbl
      go_upto_region 14 with fail
      have hbl0 : Below wo.heap.size wo wo.drew := bw_d1 (Below.refl _ _)
      refine region_plan ⟨[0, 1, 0, 0, 15, 31, 63, 127, 255, 511], [1, 4, 7], [0, 0, 0, 0, 1, 2, 2, 2, 3, 3]⟩
        [⟨[0, 2, 3], [2], some 1⟩, ⟨[], [2], some 4⟩, ⟨[5, 6], [5], some 7⟩, ⟨[8, 9], [], none⟩] 54 (by kernel_rfl) (by kernel_rfl) (by kernel_rfl) (by kernel_rfl) rfl ?_
      simp only [SeqGo, opsAt_cons, opsAt_nil, List.getElem?_cons, Option.toList_some, List.singleton_append, ↓reduceIte, Nat.reduceEqDiff, Nat.reduceSub]
      go_wp2_with (refine wp_load_f rfl 29 (.tmp 2) rfl rfl (kl _ (bw_then HBL.out (by assumption) HBL.out.size)) ?_)
      refine ⟨⟨same_load rfl 29 (.tmp 2) rfl rfl (kl _ (bw_then HBL.out (by assumption) HBL.out.size)) rfl, trivial⟩, ?_⟩
      go_wp2_with (go_at_call 16; refine (SM.out _ hbl0).mono ?_; rintro e w5 ⟨rfl, hb5⟩; have hbl5 : Below wo.heap.size wo w5 := bw_then hbl0 hb5 hbl0.size; clear hb5)
      refine ⟨⟨same_load rfl 29 (.tmp 2) rfl rfl (kl _ (bw_then HBL.out (by assumption) HBL.out.size)) rfl, trivial⟩, ?_⟩
      go_wp2_with (go_at_call 17; refine (RS.out _ _ (HP.out.rd.stay hbl5 (Nat.le_refl _))).mono ?_; rintro e w6 ⟨rfl, hb6⟩; have hbl6 : Below wo.heap.size wo w6 := bw_then hbl5 hb6 hbl5.size; clear hb6)
      refine ⟨by (simp only [Sames, Same]; go_simp), ?_⟩
      go_wp2_with (go_at_call 13; refine (awake03_any _).mono ?_; rintro e w7 ⟨rfl, hb7⟩; have hbl7 : Below wo.heap.size wo w7 := bw_then hbl6 hb7 hbl6.size; clear hb7)
      refine ⟨by (simp only [Sames]; try go_simp), ?_⟩
      go_wp2_with fail
      all_goals go_ret
      exact ⟨rfl, by rw [hB]; exact bw_then BB.out (bw_then HBL.out hbl7 HBL.out.size) (by omega)⟩

set_option maxRecDepth 100000 in
theorem contract (H : Type) (enc : TypeId × Value → H) (W : World) (base : Nat) (args : Array Value) (ds gs : List (DataW H)) (before : List MemPlace)
    (hval : ∀ (j : Nat) t v, Try.f4.params[j]? = some t → args[j]? = some v → Value.okWide Try.prog W .any base t v)
    (hW : DataW.Whole enc Try.prog Try.f4.params.toList Rows.polyMacsSpec.vars false W args.toList ds gs before) :
    Calls Try.prog 4 args W fun e W' => ∃ v, e = .returned v ∧ Rows.polyMacsSpec.post enc Try.prog Try.f4 false true false false W args v W' := by
  have hW' := hW
  obtain ⟨p, q, hA0, hV, rfl, hfz, hnd⟩ := hW
  have hA : DataW.TrodAll enc Try.prog W 0 (fun _ => true) true Try.f4.params.toList args.toList ds p := hA0
  rw [Try.params4] at hA hval
  obtain ⟨v0, vs0, d0, ds0, p0, q0, hargs0, rfl, rfl, h0, r0⟩ := trodAll_cons hA
  obtain ⟨v1, vs1, d1, ds1, p1, q1, hargs1, e1, rfl, h1, r1⟩ := trodAll_cons r0
  subst e1
  obtain ⟨e9, e8, e7⟩ := trodAll_nil r1
  subst e9 e8 e7
  obtain rfl : args = #[v0, v1] := by cases args; simp_all
  obtain ⟨rfl, rfl⟩ := trodVars_none hV
  have hv0 := hval 0 _ v0 rfl rfl
  have hv1 := hval 1 _ v1 rfl rfl
  clear hA0
  obtain ⟨fuel0, hf0⟩ := h0
  obtain ⟨fuel1, hf1⟩ := h1
  obtain ⟨z0, hl0, hcs0, hw0⟩ := trod_arr_ints Try.underlying29 Try.underlying5 (show Try.prog.cellsOf 5 = 1 by kernel_rfl) (show Try.prog.cellsOf 29 = 32 by kernel_rfl) hf0
  obtain ⟨x0, rfl⟩ : ∃ cs, v0 = .agg cs := by simp only [Value.okWide] at hv0; obtain ⟨cs, h, _⟩ := hv0; exact ⟨cs, h⟩
  obtain rfl : x0 = (z0.map (Value.int .u8)).toArray := by apply Array.toList_inj.1; simpa [Value.cells] using hcs0
  rw [one_of_ok Try.underlying30 rfl hv1] at hf1
  obtain ⟨u1, n1, f1, hcs1, he1, hf21⟩ := rows_of_trod Try.underlying30 (by kernel_rfl) hf1
  obtain rfl : v1 = u1 := by simpa using hcs1
  refine (walk W z0 v1 n1 f1 hl0 (fun z hz => byte_of_wf (hw0 z hz)) he1 hf21).mono fun e W' ⟨he, hb⟩ => ⟨_, he, ?_⟩
  exact law_post Try.laidOut (by kernel_rfl) (by kernel_rfl) Try.underlying4 rfl rfl rfl rfl hW' hb

set_option maxRecDepth 100000 in
theorem lifted (os : Os) (started : os.Started) (H : Type) (enc : TypeId × Value → H) (F : Stop.Interp) :
    ReturnsInHanded {} Try.checked os 4 .any ((OpenSpec.ofChange Rows.polyMacsSpec).preRow enc Try.prog Try.f4 Rows.polyMacsRow.domain false Rows.polyMacsRow.laid) (((OpenSpec.ofChange Rows.polyMacsSpec).at F).post enc Try.prog Try.f4 false true false false) := by
  obtain ⟨places, hx⟩ : ∃ places, DataW.whole enc Try.prog ((World.holding Try.prog os ⟨#[], #[], []⟩).forCall (fun _ _ => 0) ⟨#[], #[.agg (List.replicate 32 (Value.int .u8 0)).toArray, .slice none 0 0], []⟩).memory Try.f4.params.toList Rows.polyMacsSpec.vars false #[.agg (List.replicate 32 (Value.int .u8 0)).toArray, .slice none 0 0].toList 8 = some ([.agg (List.replicate 32 (.lit (.int .u8 0))), .nil], [], places) := ⟨[], by kernel_rfl⟩
  refine returnsInHanded_of_row (C := Try.checked) (s := OpenSpec.ofChange Rows.polyMacsSpec) Try.own started (by kernel_rfl) Try.func4
    (witness_row_at (enc := enc) (C := Try.checked) false (World.holding Try.prog os ⟨#[], #[], []⟩) #[.agg (List.replicate 32 (Value.int .u8 0)).toArray, .slice none 0 0] rfl (by kernel_rfl) (by kernel_rfl) (by kernel_rfl)
      (OpenSpec.preRow_of_cond 8 hx (by kernel_rfl) (fun k hk => by cases hk) (by kernel_rfl) (laid_none _ _))) ?_
  intro W base args ds gs before hval hW _ _ _ _ _ _
  exact contract H enc W base args ds gs before hval hW

theorem proved : Rows.PolyMacsSaid :=
  OpenClaim.holds_of_cond 4 Try.f4 rfl rfl rfl rfl rfl rfl rfl ⟨rfl, rfl, rfl, rfl, rfl⟩ rfl rfl rfl rfl rfl (by kernel_rfl) Try.func4 (by kernel_rfl)
    (of_decide_eq_true (by kernel_rfl)) (by unfold Func.isWrapper; first | (rw [if_pos (by decide +kernel)]; kernel_rfl) | (rw [if_neg (by decide +kernel)]; exact ⟨rfl, rfl⟩))
    (fun os started H enc _ F => by rw [OpenClaim.pre_eq_preRow]; exact lifted os started H enc F)
end Go.Proofs.Ytmjjnaaiakchhaa.lawPolyMacs
