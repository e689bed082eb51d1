/-
  The statement ChachaStreams: whatever pieces a stream is handed, one behind the other, it goes on where it ended. No condition but the table as it is laid.
-/
import Derived.Test.YtmjjnaaiakchhaaDoorXorM
import Derived.Test.YtmjjnaaiakchhaaDoorEls
import Derived.Test.YtmjjnaaiakchhaaDoorSlice
import Derived.Test.YtmjjnaaiakchhaaDoorSeq
import Derived.Test.YtmjjnaaiakchhaaDoorTie
namespace Go.Proofs.YtmjjnaaiakchhaaDoor.lawChachaStreams
open Go.ChangeShapes Go.WideShapes Go.ChangeAt Go.RowKit

set_option maxRecDepth 100000 in
set_option maxHeartbeats 2000000 in
theorem walk (w : World) (key nonce : List Int) (c : Int) (v : Value) (n : Nat) (f : Nat → List Value) (hk : key.length = 32) (hn : nonce.length = 12) (hkb : IsB key) (hnb : IsB nonce) (hc : 0 ≤ c ∧ c < 4294967296) (he : Els w v n 1 f) (hf : ∀ i, i < n → ∃ u xs, f i = [u] ∧ IsB xs ∧ Rd w u (bs xs)) (ht : Tab w) :
    Calls Tryd.prog 4 #[.agg (atV key c nonce).toArray, v] w fun e w' => Holds e w w' := by
  have HA := Lib.hid (show (atV key c nonce).length = 45 by rw [atV_len, hk, hn])
  have H0 := Lib.hid (fun _ : Unit => atV_c key c nonce hk)
  have p0 : ((atV key c nonce).drop 0).take (bs key).length = bs key := by simp [atV]
  have p1 : ((atV key c nonce).drop 33).take (bs nonce).length = bs nonce := by
    rw [atV, List.drop_append, List.drop_of_length_le (by simp [bs, hk])]; simp only [bs_len, hk]; simp [bs, List.take_of_length_le]
  have P0 := Lib.hid (fun _ : Unit => p0)
  have P1 := Lib.hid (fun _ : Unit => p1)
  have HK := Lib.hid hk
  have HN := Lib.hid hn
  have HKB := Lib.hid hkb
  have HNB := Lib.hid hnb
  have HF := Lib.hid hf
  obtain ⟨A, cap, rfl, hnc, hcm, _, h3⟩ := he
  have H3 := Lib.hid h3
  unfold maxLen at hcm
  clear hk hn hkb hnb p0 p1 hf h3
  obtain ⟨B, hB⟩ : ∃ B, w.heap.size = B := ⟨_, rfl⟩
  go_enter Tryd.func4, Tryd.ntmps4
  go_upto_region 1 with fail
  have b1 : Blk (w.alloc (.cells (atV key c nonce).toArray 26)) B (atV key c nonce) 26 := Blk.mk_ _ hB.symm rfl
  have bb : Below B w (w.alloc (.cells (atV key c nonce).toArray 26)) := bw_al (Below.refl _ _) (by omega) _
  have bt : Tab (w.alloc (.cells (atV key c nonce).toArray 26)) := ht.al _
  generalize w.alloc (.cells (atV key c nonce).toArray 26) = w1 at *
  have hBw := b1.lt
  by_cases hl : 12 < n
  · go_wp2_with (go_at_call 18; refine (awake02_any _).mono ?_; rintro e w' ⟨rfl, rfl⟩)
    all_goals go_ret
    exact ⟨rfl, by rw [hB]; exact bb⟩
  have HT := Lib.hid bt
  have B1 := Lib.hid b1
  have BB := Lib.hid bb
  have e0 := b1.at_ 32 (H0.out ())
  have k32 : ∀ w', Below w1.heap.size w1 w' → w'.cell? ⟨B, 32, none⟩ = some (.int .u32 c) := fun w' h => (B1.out.stay h).at_ 32 (H0.out ())
  have kl2 := load_fact B1.out 26 0 (ys := atV key c nonce) (by simp) Tryd.underlying26 rfl (n := 45) (by kernel_rfl) HA.out
  go_upto_region 5 with (first
    | (refine wp_load_sub rfl 22 (.tmp 17) rfl rfl (b1.part 0 (P0.out ())) Tryd.underlying22 rfl (n := 32) (by kernel_rfl) (by rw [bs_len, HK.out]) ?_)
    | (refine wp_load_sub rfl 24 (.tmp 21) rfl rfl (b1.part 33 (P1.out ())) Tryd.underlying24 rfl (n := 12) (by kernel_rfl) (by rw [bs_len, HN.out]) ?_)
    | (go_at_call 19; refine (newstream_any _ key nonce c HK.out HN.out hc).mono ?_; rintro e w2 ⟨g, rfl, hg, hst, hb2⟩))
  clear e0 b1 bb bt ht
  go_wp2_with fail
  go_loopw [6, 7] (fun x i wr => ∃ (k pos : Nat) (rest : Value), k ≤ n ∧ i = .int .i64 k ∧ x = .int .i64 pos ∧ StreamAt wr g key nonce c pos rest ∧ Below w1.heap.size w1 wr ∧ (pos : Int) ≤ room c ∧ pos ≤ 300 * k) (fun _ i _ => n - (intOf i).toNat)
  case atStart => exact ⟨0, 0, _, Nat.zero_le _, rfl, rfl, hst, hb2, by unfold room; omega, by omega⟩
  case round =>
    obtain ⟨k, pos, rest, hk, rfl, rfl, hs, hbl, hpr, hp3⟩ := hrel
    obtain ⟨wo, rfl⟩ : ∃ wo : World, wo = wr := ⟨_, rfl⟩
    have HST := Lib.hid hs
    clear hs hst hb2
    by_cases hlt : k < n
    · obtain ⟨u, xs, hfu, hxs, hru⟩ := HF.out k hlt
      obtain ⟨b, o, rfl, hbw, hcs⟩ := H3.out (by omega)
      have hcell := (hcs k hlt).2 0 (by decide)
      rw [hfu] at hcell
      simp only [Nat.mul_one, Nat.add_zero, List.getElem?_cons_zero] at hcell
      have kc : ∀ w', Below w1.heap.size w1 w' → w'.cell? ⟨b, o + k, none⟩ = some u := fun w' h =>
        (h.cell (p := ⟨b, o + k, none⟩) (by show b < _; have := BB.out.size; omega)).trans ((BB.out.cell (p := ⟨b, o + k, none⟩) (by show b < B; omega)).trans hcell)
      have hmx := hru.len
      rw [bs_len] at hmx
      have hlu : ∀ w', (Builtin.len_ #[30] 3 #[u]).run Tryd.prog w' = .ok (goInt xs.length) w' := by
        have := len_fact (P := Tryd.prog) hru (t := 30) (ty := 3) (by kernel_rfl)
        rwa [bs_len] at this
      have HRU := Lib.hid hru
      have HXS := Lib.hid hxs
      have HHB := Lib.hid (fun _ : Unit => hB)
      clear hfu hcs hcell hru hxs
      by_cases h300 : 300 < xs.length
      · go_wp2_with (go_at_call 18; refine (awake02_any _).mono ?_; rintro e w' ⟨rfl, rfl⟩)
        all_goals go_ret
        all_goals exact ⟨rfl, by rw [HHB.out ()]; exact bw_then BB.out hbl (by omega)⟩
      obtain ⟨m, hm⟩ : ∃ m : Nat, (pos : Int) + (xs.length : Int) = m := ⟨pos + xs.length, by omega⟩
      have hmw : IntKind.i64.wrap (m : Int) = m := by rw [IntKind.wrap_i64]; omega
      by_cases hle : (m : Int) ≤ room c
      · have HS := Lib.hid (sxor_ok w1 wo g key nonce c pos rest u xs HK.out HN.out HKB.out HNB.out hc hbl hg HT.out (HRU.out.stay BB.out (by have := HHB.out (); omega)) HXS.out HST.out (by omega) (by omega))
        have HLE := Lib.hid (fun _ : Unit => (decide_eq_true hle : decide ((m : Int) ≤ room c) = true))
        have HLE2 := Lib.hid hle
        clear hle
        go_upto_region 11 with (go_at_call 20; refine HS.out.mono ?_; rintro e w3 ⟨o3, rest3, rfl, ho3, hg3, hbo3, hst3, htu3, hb3⟩)
        have hbd : Below w1.heap.size w1 w3.drew := bw_d1 hb3
        have HST3 := Lib.hid hst3
        have HBO3 := Lib.hid hbo3
        clear hst3 hbo3 htu3
        refine region_plan ⟨[0, 0, 0, 0, 12, 28, 60, 126, 255, 511, 1023, 1023, 2047, 8191], [8], [0, 0, 0, 0, 0, 0, 0, 0, 0, 1, 1, 1, 1, 1]⟩
          [⟨[0, 1, 2, 3, 4, 5, 6, 7], [0, 4, 5, 6, 7], some 8⟩, ⟨[9, 10, 11, 12, 13], [10, 11], none⟩] 128 (by kernel_rfl) (by kernel_rfl) (by kernel_rfl) (by kernel_rfl) rfl ?_
        simp only [SeqGo, opsAt_cons, opsAt_nil, List.getElem?_cons, Option.toList_some, List.singleton_append, ↓reduceIte, Nat.reduceEqDiff, Nat.reduceSub]
        go_wp2_with (refine wp_load_f rfl 26 (.tmp 2) rfl rfl (kl2 _ (by assumption)) ?_)
        refine ⟨by
          simp only [Sames]
          refine ⟨?_, ?_, ?_, ?_, ?_, trivial⟩
          all_goals first
            | exact same_load rfl 26 (.tmp 2) rfl rfl (kl2 _ (by assumption)) rfl
            | (simp only [Same]; go_simp; (try (rw [IntKind.wrap_i64]; omega))), ?_⟩
        go_wp2_with (go_at_call 21; refine (bytes02_any _ key nonce c m HK.out HN.out HKB.out HNB.out hc (by omega)).mono ?_; rintro e w4 ⟨vk, rfl, hrk, hb4⟩; rw [HLE.out ()]; have hbl4 := bw_then hbd hb4 hbd.size)
        refine ⟨by
          simp only [Sames]
          refine ⟨?_, ?_, trivial⟩
          all_goals (simp only [Same]; go_simp), ?_⟩
        go_upto_region 15 with fail
        have hks : ksAll key nonce c m = ksL key nonce c 0 m := by rw [ksAll, if_pos HLE2.out]
        rw [hks] at hrk
        have HST4 := Lib.hid (HST3.out.stay (show Below w3.heap.size w3 w4 from bw_then (bw_d1 (Below.refl _ _)) hb4 (Nat.le_refl _)))
        have HBO4 := Lib.hid (HBO3.out.stay (show Below w3.heap.size w3 w4 from bw_then (bw_d1 (Below.refl _ _)) hb4 (Nat.le_refl _)))
        have HRU4 := Lib.hid ((HRU.out.stay BB.out (by have := HHB.out (); omega)).stay hbl4 (Nat.le_refl _))
        have HRK4 := Lib.hid hrk
        have ho4 := HBO4.out.lt
        clear hks hrk hbd hb3 hb4 hbl
        go_wp2_with fail
        go_loopw [12] (fun i wq => ∃ j : Nat, j ≤ xs.length ∧ i = .int .i64 j ∧ Below w4.heap.size w4 wq) (fun i _ => xs.length - (intOf i).toNat)
        case atStart => exact ⟨0, Nat.zero_le _, rfl, Below.refl _ _⟩
        case round =>
          obtain ⟨j, hj, rfl, hbq⟩ := hrel
          by_cases hjl : j < xs.length
          · obtain ⟨bk, ok, ck, hvk, hk1, hk2, hkc⟩ := HRK4.out.cellAt (by rw [bs_len, ksL_len]; omega)
            rw [bs_len, ksL_len] at hvk hk1
            obtain ⟨bu, ou, cu, hvu, hu1, hu2, huc⟩ := HRU4.out.cellAt (by rw [bs_len]; omega)
            rw [bs_len] at hvu hu1
            subst hvk hvu
            have q1 := hkc (pos + j) _ (ksL_get key nonce c 0 m (pos + j) (by omega))
            have q2 := huc j _ (show (bs xs)[j]? = some (.int .u8 (xs.getD j 0)) by simp [bs, List.getD_eq_getElem?_getD, hjl])
            have q3 := HBO4.out.at_ j (show (bs (xorL key nonce c pos xs xs.length))[j]? = some (.int .u8 (bits .xor .u8 (xs.getD j 0) (ksB key nonce c (pos + j)))) by simp [bs, xorL, hjl])
            have e1 : wr.cell? ⟨bk, ok + (pos + j), none⟩ = some (.int .u8 (ksB key nonce c (0 + (pos + j)))) := (hbq.cell (p := ⟨bk, ok + (pos + j), none⟩) (World.block_lt_of_cell? w4 _ q1)).trans q1
            have e2 : wr.cell? ⟨bu, ou + j, none⟩ = some (.int .u8 (xs.getD j 0)) := (hbq.cell (p := ⟨bu, ou + j, none⟩) (World.block_lt_of_cell? w4 _ q2)).trans q2
            have e3 : wr.cell? ⟨o3, j, none⟩ = some (.int .u8 (bits .xor .u8 (xs.getD j 0) (ksB key nonce c (pos + j)))) := (hbq.cell (p := ⟨o3, j, none⟩) ho4).trans q3
            have e4 : wr.cell? ⟨b, o + k, none⟩ = some (.slice (some ⟨bu, ou, none⟩) xs.length cu) := kc _ (bw_then hbl4 hbq hbl4.size)
            rw [Nat.zero_add] at e1
            have hpj : (pos : Int) + (j : Int) = ((pos + j : Nat) : Int) := by omega
            obtain ⟨x, hx⟩ : ∃ x, xs.getD j 0 = x := ⟨_, rfl⟩
            obtain ⟨y, hy⟩ : ∃ y, ksB key nonce c (pos + j) = y := ⟨_, rfl⟩
            rw [hx, hy] at e3
            rw [hx] at e2
            rw [hy] at e1
            obtain ⟨pj, hpj2⟩ : ∃ pj, pos + j = pj := ⟨_, rfl⟩
            rw [hpj2] at e1 hpj
            have hpm : pj < m := by omega
            clear q1 q2 q3 hkc huc hx hy hpj2
            go_wp2_with fail
            go_quiet (fail)
            go_wp2_with fail
            go_roundw
            case rel => exact ⟨j + 1, by omega, by go_num, bw_dr hbq _⟩
            case measure => simp [intOf]; omega
          · obtain rfl : j = xs.length := by omega
            go_wp2_with fail
            refine ⟨⟨k + 1, m, rest3, by omega, by go_num, rfl, ?_, bw_then hbl4 hbq hbl4.size, HLE2.out, by omega⟩, by simp [intOf]; omega⟩
            have := HST4.out.stay hbq
            rwa [show pos + xs.length = m by omega] at this
      · have HS := Lib.hid (sxor_long wo g key nonce c pos rest u xs HK.out HN.out HST.out hc (by unfold room at hpr; omega) ((HRU.out.stay BB.out (by have := HHB.out (); omega)).stay hbl (Nat.le_refl _)) (by unfold room at hle; omega))
        have HLE := Lib.hid (fun _ : Unit => (decide_eq_false hle : decide ((m : Int) ≤ room c) = false))
        clear hle
        go_upto_region 11 with (go_at_call 20; refine HS.out.mono ?_; rintro e w3 ⟨rfl, hb3⟩)
        have hbd : Below w1.heap.size w1 w3.drew := bw_d1 (bw_then hbl hb3 hbl.size)
        refine region_plan ⟨[0, 0, 0, 0, 12, 28, 60, 126, 255, 511, 1023, 1023, 2047, 8191], [8], [0, 0, 0, 0, 0, 0, 0, 0, 0, 1, 1, 1, 1, 1]⟩
          [⟨[0, 1, 2, 3, 4, 5, 6, 7], [0, 4, 5, 6, 7], some 8⟩, ⟨[9, 10, 11, 12, 13], [10, 11], none⟩] 128 (by kernel_rfl) (by kernel_rfl) (by kernel_rfl) (by kernel_rfl) rfl ?_
        simp only [SeqGo, opsAt_cons, opsAt_nil, List.getElem?_cons, Option.toList_some, List.singleton_append, ↓reduceIte, Nat.reduceEqDiff, Nat.reduceSub]
        go_wp2_with (refine wp_load_f rfl 26 (.tmp 2) rfl rfl (kl2 _ (by assumption)) ?_)
        refine ⟨by
          simp only [Sames]
          refine ⟨?_, ?_, ?_, ?_, ?_, trivial⟩
          all_goals first
            | exact same_load rfl 26 (.tmp 2) rfl rfl (kl2 _ (by assumption)) rfl
            | (simp only [Same]; go_simp; (try (rw [IntKind.wrap_i64]; omega))), ?_⟩
        go_wp2_with (go_at_call 21; refine (bytes02_any _ key nonce c m HK.out HN.out HKB.out HNB.out hc (by omega)).mono ?_; rintro e w4 ⟨vk, rfl, hrk, hb4⟩; rw [HLE.out ()]; have hbl4 := bw_then hbd hb4 hbd.size)
        refine ⟨by
          simp only [Sames]
          refine ⟨?_, ?_, trivial⟩
          all_goals (simp only [Same]; go_simp), ?_⟩
        go_wp2_with fail
        exact ⟨⟨k + 1, pos, rest, by omega, by go_num, rfl, HST.out.stay (bw_then hb3 (show Below w3.heap.size w3 w4 from bw_then (bw_d1 (Below.refl _ _)) hb4 (Nat.le_refl _)) hb3.size), hbl4, hpr, by omega⟩, by simp [intOf]; omega⟩
    · obtain rfl : k = n := by omega
      clear k32
      have e32 : wo.cell? ⟨B, 32, none⟩ = some (.int .u32 c) := (B1.out.stay hbl).at_ 32 (H0.out ())
      have k32 : ∀ w', Below wo.heap.size wo w' → w'.cell? ⟨B, 32, none⟩ = some (.int .u32 c) := fun w' h => (B1.out.stay (bw_then hbl h hbl.size)).at_ 32 (H0.out ())
      unfold room at hpr
      have hbd : Below wo.heap.size wo wo.drew := bw_d1 (Below.refl _ _)
      go_upto_region 21 with fail
      refine region_plan ⟨[0, 1, 0, 4, 12, 28, 60, 0, 128, 508, 1023, 2047, 4095, 8191, 16383], [1, 12], [0, 0, 0, 0, 0, 0, 0, 0, 0, 0, 1, 1, 1, 2, 2]⟩
        [⟨[0, 2, 3, 4, 5, 6, 7, 8, 9], [2, 3, 4, 5, 6, 8, 9], some 1⟩, ⟨[10, 11], [2, 3, 4, 5, 6, 8, 9, 10], some 12⟩, ⟨[13, 14], [], none⟩] 128 (by kernel_rfl) (by kernel_rfl) (by kernel_rfl) (by kernel_rfl) rfl ?_
      simp only [SeqGo, opsAt_cons, opsAt_nil, List.getElem?_cons, Option.toList_some, List.singleton_append, ↓reduceIte, Nat.reduceEqDiff, Nat.reduceSub]
      go_wp2_with fail
      refine ⟨by
        simp only [Sames]
        refine ⟨?_, ?_, ?_, ?_, ?_, ?_, ?_, trivial⟩
        all_goals (simp only [Same]; go_simp; (try (rw [IntKind.wrap_u64]; omega))), ?_⟩
      go_wp2_with (go_at_call 22; refine (left_any _ g key nonce c pos rest HK.out HN.out (HST.out.stay hbd) hc hpr).mono ?_; rintro e w9 ⟨rfl, hb9⟩; have hbl9 := bw_then hbd hb9 hbd.size)
      refine ⟨by
        simp only [Sames]
        refine ⟨?_, ?_, ?_, ?_, ?_, ?_, ?_, ?_, trivial⟩
        all_goals (simp only [Same]; go_simp; (try (rw [IntKind.wrap_u64]; omega))), ?_⟩
      go_wp2_with (go_at_call 18; refine (awake02_any _).mono ?_; rintro e' w11 ⟨rfl, hw11⟩; subst hw11)
      refine ⟨trivial, ?_⟩
      go_wp2_with fail
      all_goals go_ret
      exact ⟨rfl, by rw [hB]; exact bw_then BB.out (bw_then hbl hbl9 hbl.size) (by omega)⟩

set_option maxRecDepth 100000 in
theorem contract (H : Type) (enc : TypeId × Value → H) (W : World) (base : Nat) (args : Array Value) (ds gs : List (DataW H)) (before : List MemPlace)
    (hval : ∀ (j : Nat) t v, Tryd.f4.params[j]? = some t → args[j]? = some v → Value.okWide Tryd.prog W .any base t v)
    (hW : DataW.Whole enc Tryd.prog Tryd.f4.params.toList Rows.chachaStreamsSpec.vars false W args.toList ds gs before) (hL : laidMetH Tryd.prog Rows.chachaStreamsRow.laid W) :
    Calls Tryd.prog 4 args W fun e W' => ∃ v, e = .returned v ∧ Rows.chachaStreamsSpec.post enc Tryd.prog Tryd.f4 false true false false W args v W' := by
  have hW' := hW
  obtain ⟨p, q, hA0, hV, rfl, hfz, hnd⟩ := hW
  have hA : DataW.TrodAll enc Tryd.prog W 0 (fun _ => true) true Tryd.f4.params.toList args.toList ds p := hA0
  rw [Tryd.params4] at hA hval
  obtain ⟨v0, vs0, d0, ds0, p0, q0, hargs0, rfl, rfl, h0, r0⟩ := trodAll_cons hA
  obtain ⟨v1, vs1, d1, ds1, p1, q1, hargs1, e1, rfl, h1, r1⟩ := trodAll_cons r0
  subst e1
  obtain ⟨e9, e8, e7⟩ := trodAll_nil r1
  subst e9 e8 e7
  obtain rfl : args = #[v0, v1] := by cases args; simp_all
  obtain ⟨rfl, rfl⟩ := trodVars_none hV
  have hv0 := hval 0 _ v0 rfl rfl
  have hv1 := hval 1 _ v1 rfl rfl
  clear hA0
  obtain ⟨fuel0, hf0⟩ := h0
  obtain ⟨fuel1, hf1⟩ := h1
  obtain ⟨key0, c0, nonce0, hk0, hn0, hkb0, hnb0, hc0, hcs0⟩ := at_of_trod hf0
  obtain ⟨x0, rfl⟩ : ∃ cs, v0 = .agg cs := by simp only [Value.okWide] at hv0; obtain ⟨cs, h, _⟩ := hv0; exact ⟨cs, h⟩
  obtain rfl : x0 = (atV key0 c0 nonce0).toArray := by apply Array.toList_inj.1; simpa [Value.cells] using hcs0
  rw [one_of_ok Tryd.underlying34 rfl hv1] at hf1
  obtain ⟨u1, n1, f1, hcs1, he1, hf21⟩ := rows_of_trod Tryd.underlying34 (by kernel_rfl) hf1
  obtain rfl : v1 = u1 := by simpa using hcs1
  refine (walk W key0 nonce0 c0 v1 n1 f1 hk0 hn0 hkb0 hnb0 hc0 he1 hf21 (tab_of_laid hL)).mono fun e W' ⟨he, hb⟩ => ⟨_, he, ?_⟩
  exact law_post Tryd.laidOut (by kernel_rfl) (by kernel_rfl) Tryd.underlying4 rfl rfl rfl rfl hW' hb

/-- A WORLD FOR THE WITNESS: the settled one, the table (block 0) holding what its initialiser lays. -/
noncomputable def laidWorld (os : Os) : World :=
  { World.holding Tryd.prog os ⟨#[], #[], []⟩ with heap := (World.holding Tryd.prog os ⟨#[], #[], []⟩).heap.modify 0 fun
      | .cells _ t frozen => .cells (ns rowsL).toArray t frozen
      | o => o }
def wit : Array Value := #[.agg (atV (List.replicate 32 0) 0 (List.replicate 12 0)).toArray, .slice none 0 0]
theorem laid_met (os : Os) : laidMet Tryd.prog Rows.chachaStreamsRow.laid ((laidWorld os).forCall (fun _ _ => 0) ⟨#[], wit, []⟩).memory :=
  laidMet_of_run' 8 (by kernel_rfl) (by kernel_rfl)
theorem reads (os : Os) {H : Type} (enc : TypeId × Value → H) : ∃ ds places, DataW.whole enc Tryd.prog ((laidWorld os).forCall (fun _ _ => 0) ⟨#[], wit, []⟩).memory Tryd.f4.params.toList Rows.chachaStreamsSpec.vars false wit.toList 8 = some (ds, [], places) :=
  ⟨[.agg [.agg (List.replicate 32 (.lit (.int .u8 0))), .lit (.int .u32 0), .agg (List.replicate 12 (.lit (.int .u8 0)))], .nil], [], by kernel_rfl⟩

set_option maxRecDepth 100000 in
theorem lifted (os : Os) (started : os.Started) (H : Type) (enc : TypeId × Value → H) (F : Stop.Interp) :
    ReturnsInHanded {} Tryd.checked os 4 .any ((OpenSpec.ofChange Rows.chachaStreamsSpec).preRow enc Tryd.prog Tryd.f4 Rows.chachaStreamsRow.domain false Rows.chachaStreamsRow.laid) (((OpenSpec.ofChange Rows.chachaStreamsSpec).at F).post enc Tryd.prog Tryd.f4 false true false false) := by
  obtain ⟨ds, places, hx⟩ := reads os enc
  refine returnsInHanded_of_row (C := Tryd.checked) (s := OpenSpec.ofChange Rows.chachaStreamsSpec) Tryd.own started (by kernel_rfl) Tryd.func4
    (witness_row_at (enc := enc) (C := Tryd.checked) false (laidWorld os) wit rfl (by kernel_rfl) (by kernel_rfl) (by kernel_rfl)
      (OpenSpec.preRow_of_cond 8 hx (by kernel_rfl) (fun k hk => by cases hk) (by kernel_rfl) (laid_met os))) ?_
  intro W base args ds gs before hval hW _ _ _ hL _ _
  exact contract H enc W base args ds gs before hval hW hL

theorem said : Rows.ChachaStreamsSaid :=
  OpenClaim.holds_of_cond 4 Tryd.f4 rfl rfl rfl rfl rfl rfl rfl ⟨rfl, rfl, rfl, rfl, rfl⟩ rfl rfl rfl rfl rfl (by kernel_rfl) Tryd.func4 (by kernel_rfl)
    (of_decide_eq_true (by kernel_rfl)) (by unfold Func.isWrapper; first | (rw [if_pos (by decide +kernel)]; kernel_rfl) | (rw [if_neg (by decide +kernel)]; exact ⟨rfl, rfl⟩))
    (fun os started H enc _ F => by rw [OpenClaim.pre_eq_preRow]; exact lifted os started H enc F)

/-- No parameter wants a stand-in; the program's own looks are off. -/
theorem plain (f : FuncId) (fn : Func) (hf : Tryd.pinned.checked.prog.funcNamed "intaglio/intagliolaw02.ChachaStreams" = some f) (hfn : Tryd.pinned.checked.prog.funcs[f]? = some fn) :
    false = Tryd.pinned.checked.prog.looks [] ∧ ∀ (j : Nat) t, fn.params[j]? = some t → Tryd.pinned.checked.prog.wantsStandIn t = false := by
  obtain rfl : f = 4 := Option.some.inj ((show Tryd.prog.funcNamed "intaglio/intagliolaw02.ChachaStreams" = some 4 by kernel_rfl).symm.trans hf) |>.symm
  obtain rfl : fn = Tryd.f4 := (Option.some.inj (Tryd.func4.symm.trans hfn)).symm
  refine ⟨by kernel_rfl, fun j t ht => ?_⟩
  rw [Tryd.params4] at ht
  have hall : (#[26, 34].toList.all fun u => !Tryd.prog.wantsStandIn u) = true := by kernel_rfl
  exact (show Tryd.prog.wantsStandIn t = false by simpa using List.all_eq_true.1 hall t (by simpa using Array.mem_of_getElem? ht))

/-- THE CARD. -/
theorem proved : Rows.ChachaStreamsCardSaid :=
  Claim7.holds_tied_plain_at .later [] _ _ _ _ said (fun _ h => by cases h) (by kernel_rfl) (fun _ h => by cases h) chachaStreams_row_tie rfl ⟨rfl, rfl⟩ (by kernel_rfl) rfl plain (by kernel_rfl)
end Go.Proofs.YtmjjnaaiakchhaaDoor.lawChachaStreams
