/-
  The statement ChachaEnds: the last counter is used, and none behind it. No condition but the table as it is laid.
-/
import Derived.Test.YtmjjnaaiakchhaaDoorXorM
import Derived.Test.YtmjjnaaiakchhaaDoorEls
import Derived.Test.YtmjjnaaiakchhaaDoorSlice
import Derived.Test.YtmjjnaaiakchhaaDoorSeq
import Derived.Test.YtmjjnaaiakchhaaDoorTie
namespace Go.Proofs.YtmjjnaaiakchhaaDoor.lawChachaEnds
open Go.ChangeShapes Go.WideShapes Go.ChangeAt Go.RowKit

theorem isB_zero (n : Nat) : IsB (List.replicate n 0) := by
  intro z hz
  obtain ⟨_, rfl⟩ := List.mem_replicate.1 hz
  exact ⟨Int.le_refl _, by decide⟩

set_option maxRecDepth 100000 in
set_option maxHeartbeats 2000000 in
theorem walk (w : World) (key nonce : List Int) (c : Int) (z : Int) (hk : key.length = 32) (hn : nonce.length = 12) (hkb : IsB key) (hnb : IsB nonce) (hc : 0 ≤ c ∧ c < 4294967296) (hlo : IntKind.u8.min ≤ z) (hhi : z ≤ IntKind.u8.max) (ht : Tab w) :
    Calls Tryd.prog 5 #[.agg (atV key c nonce).toArray, .int .u8 z] w fun e w' => Holds e w w' := by
  have HA := Lib.hid (show (atV key c nonce).length = 45 by rw [atV_len, hk, hn])
  have H0 := Lib.hid (fun _ : Unit => atV_c key c nonce hk)
  have p0 : ((atV key c nonce).drop 0).take (bs key).length = bs key := by simp [atV]
  have p1 : ((atV key c nonce).drop 33).take (bs nonce).length = bs nonce := by
    rw [atV, List.drop_append, List.drop_of_length_le (by simp [bs, hk])]; simp only [bs_len, hk]; simp [bs, List.take_of_length_le]
  have P0 := Lib.hid (fun _ : Unit => p0)
  have P1 := Lib.hid (fun _ : Unit => p1)
  have HK := Lib.hid hk
  have HN := Lib.hid hn
  have HKB := Lib.hid hkb
  have HNB := Lib.hid hnb
  have hz : 0 ≤ z ∧ z ≤ 255 := ⟨hlo, hhi⟩
  obtain ⟨n, hn8⟩ : ∃ n : Nat, z % 8 + 1 = n := ⟨(z % 8 + 1).toNat, by omega⟩
  have hn1 : 1 ≤ n ∧ n ≤ 8 := by omega
  have hn9 : z % 8 = (n : Int) - 1 := by omega
  obtain ⟨c2, hc2⟩ : ∃ c2 : Int, 4294967296 - (n : Int) = c2 := ⟨_, rfl⟩
  have hc3 : 0 ≤ c2 ∧ c2 < 4294967296 := by omega
  have hrm : room c2 = 64 * n := by unfold room; omega
  obtain ⟨N, hN⟩ : ∃ N : Nat, 64 * (n : Int) = N := ⟨64 * n, by omega⟩
  obtain ⟨M, hM⟩ : ∃ M : Nat, (N : Int) + 1 = M := ⟨N + 1, by omega⟩
  have hrm : room c2 = N := by omega
  have HRM := Lib.hid (fun _ : Unit => hrm)
  have HC2 := Lib.hid (fun _ : Unit => hc2)
  have hset := atV_set key nonce c c2 hk
  have h02 := atV_c key c2 nonce hk
  have hof := fun c => (show (atV key c nonce).length = 45 by rw [atV_len, hk, hn])
  have q0 : ((atV key c2 nonce).drop 0).take (bs key).length = bs key := by simp [atV]
  have q1 : ((atV key c2 nonce).drop 33).take (bs nonce).length = bs nonce := by
    rw [atV, List.drop_append, List.drop_of_length_le (by simp [bs, hk])]; simp only [bs_len, hk]; simp [bs, List.take_of_length_le]
  have Q0 := Lib.hid (fun _ : Unit => q0)
  have Q1 := Lib.hid (fun _ : Unit => q1)
  have HSET := Lib.hid (fun _ : Unit => hset)
  have H02 := Lib.hid (fun _ : Unit => h02)
  clear hk hn hkb hnb p0 p1 q0 q1 hlo hhi hn8 hrm hset h02 hof P0 P1
  obtain ⟨B, hB⟩ : ∃ B, w.heap.size = B := ⟨_, rfl⟩
  go_enter Tryd.func5, Tryd.ntmps5
  go_upto_region 1 with fail
  have b1 : Blk (w.alloc (.cells (atV key c nonce).toArray 26)) B (atV key c nonce) 26 := Blk.mk_ _ hB.symm rfl
  have bb : Below B w (w.alloc (.cells (atV key c nonce).toArray 26)) := bw_al (Below.refl _ _) (by omega) _
  have bt : Tab (w.alloc (.cells (atV key c nonce).toArray 26)) := ht.al _
  generalize w.alloc (.cells (atV key c nonce).toArray 26) = w1 at *
  have hBw := b1.lt
  have e0 := b1.at_ 32 (H0.out ())
  have e1 := b1.free 32
  have hb0 : 0 ≠ B := by have := ht.lt; omega
  have b2 := b1.set 32 (.int .u32 c2)
  rw [HSET.out ()] at b2
  have B2 := Lib.hid b2
  have BB2 := Lib.hid (bb.setCell (p := ⟨B, 32, none⟩) (Nat.le_refl _) (.int .u32 c2))
  have HT2 := Lib.hid (bt.other (a := ⟨B, 32, none⟩) hb0 (.int .u32 c2))
  clear b2 bb bt ht b1
  go_upto_region 3 with fail
  generalize w1.setCell ⟨B, 32, none⟩ (.int .u32 c2) = w2 at *
  obtain ⟨i, hi, hz0, hz1, hz2⟩ := info_parts info5
  have k32 : ∀ w', Below w2.heap.size w2 w' → w'.cell? ⟨B, 32, none⟩ = some (.int .u32 c2) := fun w' h => (B2.out.stay h).at_ 32 (H02.out ())
  have kl0 := load_fact B2.out 22 0 (Q0.out ()) Tryd.underlying22 rfl (n := 32) (by kernel_rfl) (by rw [bs_len, HK.out])
  have kl1 := load_fact B2.out 24 33 (Q1.out ()) Tryd.underlying24 rfl (n := 12) (by kernel_rfl) (by rw [bs_len, HN.out])
  have hbl0 : Below w2.heap.size w2 w2.drew := bw_d1 (Below.refl _ _)
  refine region_plan ⟨[0, 1, 0, 4, 0, 16, 0, 64, 192, 511, 1023, 2047, 2047, 4095, 16383], [8, 9], [0, 0, 0, 0, 0, 0, 0, 0, 0, 1, 2, 2, 2, 2, 2]⟩
    [⟨[0, 1, 2, 3, 4, 5, 6, 7], [0, 1, 2, 3, 4, 5, 7], some 8⟩, ⟨[], [0, 1, 2, 3, 4, 5], some 9⟩, ⟨[10, 11, 12, 13, 14], [11, 12], none⟩] 103 (by kernel_rfl) (by kernel_rfl) (by kernel_rfl) (by kernel_rfl) rfl ?_
  simp only [SeqGo, opsAt_cons, opsAt_nil, List.getElem?_cons, Option.toList_some, List.singleton_append, ↓reduceIte, Nat.reduceEqDiff, Nat.reduceSub]
  go_wp2_with (first
    | (refine wp_load_f rfl 22 (.tmp 23) rfl rfl (kl0 _ (by assumption)) ?_)
    | (refine wp_load_f rfl 24 (.tmp 27) rfl rfl (kl1 _ (by assumption)) ?_))
  refine ⟨by
    simp only [Sames]
    refine ⟨?_, ?_, ?_, ?_, ?_, ?_, ?_, trivial⟩
    all_goals first
      | exact same_load rfl 22 (.tmp 23) rfl rfl (kl0 _ (by assumption)) rfl
      | exact same_load rfl 24 (.tmp 27) rfl rfl (kl1 _ (by assumption)) rfl
      | (simp only [Same]; go_simp; (try (rw [IntKind.wrap_i64]; omega))), ?_⟩
  go_wp2_with (refine wpList_make_full w2.drew rfl (.tmp 30) (.tmp 30) 30 rfl w2.heap.size 5 i _ 1 Tryd.underlying30 hi hz0 hz1 .i64 .i64 _ _ N rfl rfl rfl rfl (by rw [hz2]; omega) (by unfold maxLen; omega) (Nat.le_refl _) ?_; intro w3 hown hgrow)
  have hbl3 : Below w2.heap.size w2 w3 := hbl0.grown hgrow (Nat.le_refl _) (fun k h => by cases h)
  have hout : Blk w3 w2.heap.size (bs (List.replicate N 0)) 5 := by
    have h := blk_of_full hown
    rw [show (Value.cells (Value.int IntKind.u8 0)) = #[Value.int IntKind.u8 0] from rfl, Nat.mul_one, toList_madeCells_one] at h
    simpa [bs] using h
  have hrd3 : Rd w3 (.slice (some ⟨w2.heap.size, 0, none⟩) N N) (bs (List.replicate N 0)) := by
    have := Rd.of_blk hout (by rw [bs_len, List.length_replicate]; omega); rwa [bs_len, List.length_replicate] at this
  have HRD3 := Lib.hid hrd3
  clear hown hgrow hout hrd3
  refine ⟨by
    simp only [Sames]
    refine ⟨?_, ?_, ?_, ?_, ?_, ?_, trivial⟩
    all_goals first
      | exact same_load rfl 22 (.tmp 23) rfl rfl (kl0 _ (by assumption)) rfl
      | exact same_load rfl 24 (.tmp 27) rfl rfl (kl1 _ (by assumption)) rfl
      | (simp only [Same]; go_simp; (try (rw [IntKind.wrap_i64]; omega))), ?_⟩
  go_wp2_with (go_at_call 23; refine (chxor_any _ key nonce c2 _ _ HK.out HN.out HKB.out HNB.out hc3 HRD3.out (isB_zero N) (HT2.out.keep hbl3 (HT2.out.lt)) (by rw [List.length_replicate]; omega)).mono ?_; rintro e w4 ⟨va, rfl, hra, hb4, _⟩)
  have hbl4 : Below w2.heap.size w2 w4 := bw_then hbl3 hb4 hbl3.size
  have hxl : (xorAll key nonce c2 (List.replicate N 0)).length = N := by
    rw [xorAll_len, List.length_replicate, if_pos (by have := HRM.out (); omega)]
  have hlva : ∀ w', (Builtin.len_ #[30] 3 #[va]).run Tryd.prog w' = .ok (goInt N) w' := by
    have := len_fact (P := Tryd.prog) hra (t := 30) (ty := 3) (by kernel_rfl)
    rwa [bs_len, hxl] at this
  clear hbl0 hbl3 hra hxl
  refine ⟨by
    simp only [Sames]
    refine ⟨?_, ?_, trivial⟩
    all_goals (simp only [Same]; go_simp), ?_⟩
  go_upto_region 4 with fail
  have hbl0 : Below w2.heap.size w2 w4.drew := bw_d1 hbl4
  refine region_plan ⟨[0, 1, 0, 4, 0, 16, 0, 64, 192, 448, 1023, 2047, 4095, 4095, 8191, 32767], [9, 10], [0, 0, 0, 0, 0, 0, 0, 0, 0, 0, 1, 2, 2, 2, 2, 2]⟩
    [⟨[0, 1, 2, 3, 4, 5, 6, 7, 8], [0, 1, 2, 3, 4, 5, 7, 8], some 9⟩, ⟨[], [0, 1, 2, 3, 4, 5], some 10⟩, ⟨[11, 12, 13, 14, 15], [12, 13], none⟩] 103 (by kernel_rfl) (by kernel_rfl) (by kernel_rfl) (by kernel_rfl) rfl ?_
  simp only [SeqGo, opsAt_cons, opsAt_nil, List.getElem?_cons, Option.toList_some, List.singleton_append, ↓reduceIte, Nat.reduceEqDiff, Nat.reduceSub]
  go_wp2_with (first
    | (refine wp_load_f rfl 22 (.tmp 36) rfl rfl (kl0 _ (by assumption)) ?_)
    | (refine wp_load_f rfl 24 (.tmp 40) rfl rfl (kl1 _ (by assumption)) ?_))
  refine ⟨by
    simp only [Sames]
    refine ⟨?_, ?_, ?_, ?_, ?_, ?_, ?_, ?_, trivial⟩
    all_goals first
      | exact same_load rfl 22 (.tmp 36) rfl rfl (kl0 _ (by assumption)) rfl
      | exact same_load rfl 24 (.tmp 40) rfl rfl (kl1 _ (by assumption)) rfl
      | (simp only [Same]; go_simp; (try (rw [IntKind.wrap_i64]; omega))), ?_⟩
  go_wp2_with (refine wpList_make_full w4.drew rfl (.tmp 44) (.tmp 44) 30 rfl w4.heap.size 5 i _ 1 Tryd.underlying30 hi hz0 hz1 .i64 .i64 _ _ M rfl rfl rfl rfl (by rw [hz2]; omega) (by unfold maxLen; omega) (Nat.le_refl _) ?_; intro w5 hown hgrow)
  have hbl5 : Below w2.heap.size w2 w5 := hbl0.grown hgrow hbl4.size (fun k h => by cases h)
  have hbl45 : Below w4.heap.size w4 w5 := (bw_d1 (Below.refl _ _)).grown hgrow (Nat.le_refl _) (fun k h => by cases h)
  have hout : Blk w5 w4.heap.size (bs (List.replicate M 0)) 5 := by
    have h := blk_of_full hown
    rw [show (Value.cells (Value.int IntKind.u8 0)) = #[Value.int IntKind.u8 0] from rfl, Nat.mul_one, toList_madeCells_one] at h
    simpa [bs] using h
  have hrd3 : Rd w5 (.slice (some ⟨w4.heap.size, 0, none⟩) M M) (bs (List.replicate M 0)) := by
    have := Rd.of_blk hout (by rw [bs_len, List.length_replicate]; omega); rwa [bs_len, List.length_replicate] at this
  have HRD5 := Lib.hid hrd3
  clear hown hgrow hout hrd3
  refine ⟨by
    simp only [Sames]
    refine ⟨?_, ?_, ?_, ?_, ?_, ?_, trivial⟩
    all_goals first
      | exact same_load rfl 22 (.tmp 36) rfl rfl (kl0 _ (by assumption)) rfl
      | exact same_load rfl 24 (.tmp 40) rfl rfl (kl1 _ (by assumption)) rfl
      | (simp only [Same]; go_simp; (try (rw [IntKind.wrap_i64]; omega))), ?_⟩
  have HDF := Lib.hid (fun _ : Unit => (show ¬ (((List.replicate M (0 : Int)).length : Nat) : Int) ≤ room c2 by rw [List.length_replicate]; have := HRM.out (); omega))
  go_wp2_with (go_at_call 23; refine (chxor_any _ key nonce c2 _ _ HK.out HN.out HKB.out HNB.out hc3 HRD5.out (isB_zero M) (HT2.out.keep hbl5 (HT2.out.lt)) (by rw [List.length_replicate]; omega)).mono ?_; rintro e w6 ⟨vb, rfl, hrb, hb6, _⟩; rw [decide_eq_false (HDF.out ())])
  have hbl6 : Below w2.heap.size w2 w6 := bw_then hbl5 hb6 hbl5.size
  have hlvb : ∀ w', (Builtin.len_ #[30] 3 #[vb]).run Tryd.prog w' = .ok (goInt 0) w' := by
    have := len_fact (P := Tryd.prog) hrb (t := 30) (ty := 3) (by kernel_rfl)
    rwa [bs_len, xorAll_len, if_neg (by have := HDF.out (); omega)] at this
  clear hbl0 hbl5 hrb hbl45
  refine ⟨by
    simp only [Sames]
    refine ⟨?_, ?_, trivial⟩
    all_goals (simp only [Same]; go_simp), ?_⟩
  go_upto_region 6 with fail
  have hw6 := hbl6.size
  have hg2 : w2.heap.size ≤ w6.heap.size := hbl6.size
  go_upto_region 7 with (go_at_call 20; refine (sxor_nil _ _ [1] (Rd.one w6 (.int .u8 1) _) (by decide)).mono ?_; rintro e w7 ⟨rfl, hb7⟩)
  have hbl7 : Below w2.heap.size w2 w7 := bw_then (bw_al hbl6 hg2 _) hb7 (by have := hb7.size; simp at *; omega)
  have hrm2 := HRM.out ()
  unfold room at hrm2
  have LN := Lib.hid (fun w => left_nil w)
  have NS := Lib.hid (fun w => newstream_any w key nonce c2 HK.out HN.out hc3)
  have LA := Lib.hid (fun w g hst => (show Calls Tryd.prog 22 #[.pointer (some ⟨g, 0, none⟩)] w fun e w' => e = .returned (.int .u64 N) ∧ Below w.heap.size w w' from by
    have := left_any w g key nonce c2 0 (.slice none 0 0) HK.out HN.out hst hc3 (by omega)
    rwa [show (4294967296 - c2) * 64 - ((0 : Nat) : Int) = (N : Int) from by omega] at this))
  clear hb7 hrm2 hw6 hg2
  have tok1 : True := trivial
  go_wp2_with (first
    | (go_at_call 22; have _t := tok1; refine (LN.out _).mono ?_; rintro e w8 ⟨rfl, hb8⟩; have hbl8 : Below w2.heap.size w2 w8 := bw_then hbl7 hb8 hbl7.size; clear hb8 tok1)
    | (refine wp_load_f rfl 22 (.tmp 87) rfl rfl (kl0 _ (by assumption)) ?_)
    | (refine wp_load_f rfl 24 (.tmp 91) rfl rfl (kl1 _ (by assumption)) ?_)
    | (go_at_call 19; refine (NS.out _).mono ?_; rintro e w9 ⟨g, rfl, hg, hst, hb9⟩; have hbl9 : Below w2.heap.size w2 w9 := bw_then hbl8 hb9 hbl8.size; clear hb9; have HSG := Lib.hid hst; clear hst; have tok2 : True := trivial)
    | (go_at_call 22; have _t := tok2; refine (LA.out _ g HSG.out).mono ?_; rintro e w10 ⟨rfl, hb10⟩; have hbl10 : Below w2.heap.size w2 w10 := bw_then hbl9 hb10 hbl9.size; clear hb10 tok2)
    | (go_at_call 18; refine (awake02_any _).mono ?_; rintro e' w11 ⟨rfl, hw11⟩; subst hw11))
  all_goals go_ret
  exact ⟨rfl, by rw [hB]; exact bw_then BB2.out hbl10 (Nat.le_of_lt B2.out.lt)⟩

set_option maxRecDepth 100000 in
theorem contract (H : Type) (enc : TypeId × Value → H) (W : World) (base : Nat) (args : Array Value) (ds gs : List (DataW H)) (before : List MemPlace)
    (hval : ∀ (j : Nat) t v, Tryd.f5.params[j]? = some t → args[j]? = some v → Value.okWide Tryd.prog W .any base t v)
    (hW : DataW.Whole enc Tryd.prog Tryd.f5.params.toList Rows.chachaEndsSpec.vars false W args.toList ds gs before) (hL : laidMetH Tryd.prog Rows.chachaEndsRow.laid W) :
    Calls Tryd.prog 5 args W fun e W' => ∃ v, e = .returned v ∧ Rows.chachaEndsSpec.post enc Tryd.prog Tryd.f5 false true false false W args v W' := by
  have hW' := hW
  obtain ⟨p, q, hA0, hV, rfl, hfz, hnd⟩ := hW
  have hA : DataW.TrodAll enc Tryd.prog W 0 (fun _ => true) true Tryd.f5.params.toList args.toList ds p := hA0
  rw [Tryd.params5] at hA hval
  obtain ⟨v0, vs0, d0, ds0, p0, q0, hargs0, rfl, rfl, h0, r0⟩ := trodAll_cons hA
  obtain ⟨v1, vs1, d1, ds1, p1, q1, hargs1, e1, rfl, h1, r1⟩ := trodAll_cons r0
  subst e1
  obtain ⟨e9, e8, e7⟩ := trodAll_nil r1
  subst e9 e8 e7
  obtain rfl : args = #[v0, v1] := by cases args; simp_all
  obtain ⟨rfl, rfl⟩ := trodVars_none hV
  have hv0 := hval 0 _ v0 rfl rfl
  have hv1 := hval 1 _ v1 rfl rfl
  clear hA0
  obtain ⟨fuel0, hf0⟩ := h0
  obtain ⟨fuel1, hf1⟩ := h1
  obtain ⟨key0, c0, nonce0, hk0, hn0, hkb0, hnb0, hc0, hcs0⟩ := at_of_trod hf0
  obtain ⟨x0, rfl⟩ : ∃ cs, v0 = .agg cs := by simp only [Value.okWide] at hv0; obtain ⟨cs, h, _⟩ := hv0; exact ⟨cs, h⟩
  obtain rfl : x0 = (atV key0 c0 nonce0).toArray := by apply Array.toList_inj.1; simpa [Value.cells] using hcs0
  rw [one_of_ok Tryd.underlying5 rfl hv1] at hf1
  obtain ⟨z1, hcs1, hlo1, hhi1⟩ := int_of_trod Tryd.underlying5 hf1
  obtain rfl : v1 = .int .u8 z1 := by simpa using hcs1
  refine (walk W key0 nonce0 c0 z1 hk0 hn0 hkb0 hnb0 hc0 hlo1 hhi1 (tab_of_laid hL)).mono fun e W' ⟨he, hb⟩ => ⟨_, he, ?_⟩
  exact law_post Tryd.laidOut (by kernel_rfl) (by kernel_rfl) Tryd.underlying4 rfl rfl rfl rfl hW' hb

/-- A WORLD FOR THE WITNESS: the settled one, the table (block 0) holding what its initialiser lays. -/
noncomputable def laidWorld (os : Os) : World :=
  { World.holding Tryd.prog os ⟨#[], #[], []⟩ with heap := (World.holding Tryd.prog os ⟨#[], #[], []⟩).heap.modify 0 fun
      | .cells _ t frozen => .cells (ns rowsL).toArray t frozen
      | o => o }
def wit : Array Value := #[.agg (atV (List.replicate 32 0) 0 (List.replicate 12 0)).toArray, .int .u8 0]
theorem laid_met (os : Os) : laidMet Tryd.prog Rows.chachaEndsRow.laid ((laidWorld os).forCall (fun _ _ => 0) ⟨#[], wit, []⟩).memory :=
  laidMet_of_run' 8 (by kernel_rfl) (by kernel_rfl)
theorem reads (os : Os) {H : Type} (enc : TypeId × Value → H) : ∃ ds places, DataW.whole enc Tryd.prog ((laidWorld os).forCall (fun _ _ => 0) ⟨#[], wit, []⟩).memory Tryd.f5.params.toList Rows.chachaEndsSpec.vars false wit.toList 8 = some (ds, [], places) :=
  ⟨[.agg [.agg (List.replicate 32 (.lit (.int .u8 0))), .lit (.int .u32 0), .agg (List.replicate 12 (.lit (.int .u8 0)))], .lit (.int .u8 0)], [], by kernel_rfl⟩

set_option maxRecDepth 100000 in
theorem lifted (os : Os) (started : os.Started) (H : Type) (enc : TypeId × Value → H) (F : Stop.Interp) :
    ReturnsInHanded {} Tryd.checked os 5 .any ((OpenSpec.ofChange Rows.chachaEndsSpec).preRow enc Tryd.prog Tryd.f5 Rows.chachaEndsRow.domain false Rows.chachaEndsRow.laid) (((OpenSpec.ofChange Rows.chachaEndsSpec).at F).post enc Tryd.prog Tryd.f5 false true false false) := by
  obtain ⟨ds, places, hx⟩ := reads os enc
  refine returnsInHanded_of_row (C := Tryd.checked) (s := OpenSpec.ofChange Rows.chachaEndsSpec) Tryd.own started (by kernel_rfl) Tryd.func5
    (witness_row_at (enc := enc) (C := Tryd.checked) false (laidWorld os) wit rfl (by kernel_rfl) (by kernel_rfl) (by kernel_rfl)
      (OpenSpec.preRow_of_cond 8 hx (by kernel_rfl) (fun k hk => by cases hk) (by kernel_rfl) (laid_met os))) ?_
  intro W base args ds gs before hval hW _ _ _ hL _ _
  exact contract H enc W base args ds gs before hval hW hL

theorem said : Rows.ChachaEndsSaid :=
  OpenClaim.holds_of_cond 5 Tryd.f5 rfl rfl rfl rfl rfl rfl rfl ⟨rfl, rfl, rfl, rfl, rfl⟩ rfl rfl rfl rfl rfl (by kernel_rfl) Tryd.func5 (by kernel_rfl)
    (of_decide_eq_true (by kernel_rfl)) (by unfold Func.isWrapper; first | (rw [if_pos (by decide +kernel)]; kernel_rfl) | (rw [if_neg (by decide +kernel)]; exact ⟨rfl, rfl⟩))
    (fun os started H enc _ F => by rw [OpenClaim.pre_eq_preRow]; exact lifted os started H enc F)

/-- No parameter wants a stand-in; the program's own looks are off. -/
theorem plain (f : FuncId) (fn : Func) (hf : Tryd.pinned.checked.prog.funcNamed "intaglio/intagliolaw02.ChachaEnds" = some f) (hfn : Tryd.pinned.checked.prog.funcs[f]? = some fn) :
    false = Tryd.pinned.checked.prog.looks [] ∧ ∀ (j : Nat) t, fn.params[j]? = some t → Tryd.pinned.checked.prog.wantsStandIn t = false := by
  obtain rfl : f = 5 := Option.some.inj ((show Tryd.prog.funcNamed "intaglio/intagliolaw02.ChachaEnds" = some 5 by kernel_rfl).symm.trans hf) |>.symm
  obtain rfl : fn = Tryd.f5 := (Option.some.inj (Tryd.func5.symm.trans hfn)).symm
  refine ⟨by kernel_rfl, fun j t ht => ?_⟩
  rw [Tryd.params5] at ht
  have hall : (#[26, 5].toList.all fun u => !Tryd.prog.wantsStandIn u) = true := by kernel_rfl
  exact (show Tryd.prog.wantsStandIn t = false by simpa using List.all_eq_true.1 hall t (by simpa using Array.mem_of_getElem? ht))

/-- THE CARD. -/
theorem proved : Rows.ChachaEndsCardSaid :=
  Claim7.holds_tied_plain_at .later [] _ _ _ _ said (fun _ h => by cases h) (by kernel_rfl) (fun _ h => by cases h) chachaEnds_row_tie rfl ⟨rfl, rfl⟩ (by kernel_rfl) rfl plain (by kernel_rfl)
end Go.Proofs.YtmjjnaaiakchhaaDoor.lawChachaEnds
