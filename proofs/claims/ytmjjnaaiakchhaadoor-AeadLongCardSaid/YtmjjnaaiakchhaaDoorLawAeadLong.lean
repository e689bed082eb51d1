/-
  The statement AeadLong: texts and what goes beside them that are longer than the limit are refused, whatever the key. No condition but the table as it is laid.
-/
import Derived.Test.YtmjjnaaiakchhaaDoorAc1
import Derived.Test.YtmjjnaaiakchhaaDoorTie
namespace Go.Proofs.YtmjjnaaiakchhaaDoor.lawAeadLong
open Go.ChangeShapes Go.WideShapes Go.ChangeAt Go.RowKit

set_option maxRecDepth 100000 in
set_option maxHeartbeats 2000000 in
theorem walk (w : World) (key nonce : List Int) (va : Value) (z : Int) (hk : key.length = 32) (hn : nonce.length = 12) (hz : 0 ≤ z ∧ z ≤ 255) (ht : Tab w) :
    Calls Tryd.prog 11 #[.agg (withV key nonce va).toArray, .int .u8 z] w fun e w' => e = .returned (.bool true) ∧ Below w.heap.size w w' := by
  obtain ⟨i, hi, hz0, hz1, hz2⟩ := info_parts info5
  obtain ⟨N, hN⟩ : ∃ N : Nat, 65537 + z = N := ⟨(65537 + z).toNat, by omega⟩
  obtain ⟨m, hm⟩ : ∃ m : Nat, z % 16 = m := ⟨(z % 16).toNat, by omega⟩
  have hzt : z.tmod 16 = m := by rw [Int.tmod_eq_emod_of_nonneg hz.1]; exact hm
  have hN1 : 65537 ≤ N := by omega
  have hN2 : N ≤ 70000 := by omega
  have hm1 : m < 16 := by omega
  have HKL := Lib.hid (show (bs key).length = 32 by rw [bs_len, hk])
  have HNL := Lib.hid (show (bs nonce).length = 12 by rw [bs_len, hn])
  have HP0 := Lib.hid (fun _ : Unit => withV_p0 key nonce va)
  have HP1 := Lib.hid (fun _ : Unit => withV_p1 key nonce va hk)
  clear hk hn
  obtain ⟨B, hB⟩ : ∃ B, w.heap.size = B := ⟨_, rfl⟩
  go_enter Tryd.func11, Tryd.ntmps11
  go_upto_region 1 with fail
  have b1 : Blk (w.alloc (.cells (withV key nonce va).toArray 52)) B (withV key nonce va) 52 := Blk.mk_ _ hB.symm rfl
  have bb : Below B w (w.alloc (.cells (withV key nonce va).toArray 52)) := bw_al (Below.refl _ _) (by omega) _
  have hT1 := ht.keep bb (by rw [← hB]; exact ht.lt)
  generalize w.alloc (.cells (withV key nonce va).toArray 52) = w1 at *
  have hBw := b1.lt
  have AW := Lib.hid (fun w' (h : Below w1.heap.size w1 w') => awake04_any w' (hT1.stay h))
  have k0 := load_fact b1 22 0 (ys := bs key) (HP0.out ()) Tryd.underlying22 rfl (n := 32) (by kernel_rfl) HKL.out
  have k1 := load_fact b1 24 32 (ys := bs nonce) (HP1.out ()) Tryd.underlying24 rfl (n := 12) (by kernel_rfl) HNL.out
  have BB := Lib.hid bb
  clear hT1 bb b1 ht
  go_upto_region 2 with (refine wpList_make_full w1 rfl (.tmp 18) (.tmp 18) 30 rfl w1.heap.size 5 i _ 1 Tryd.underlying30 hi hz0 hz1 .i64 .i64 _ _ N rfl rfl rfl rfl (by rw [hz2]; omega) (by unfold maxLen; omega) (Nat.le_refl _) ?_; intro w2 hown hgrow)
  have hb2 : Below w1.heap.size w1 w2 := (Below.refl _ _).grown hgrow (Nat.le_refl _) (fun k h => by cases h)
  have HO := Lib.hid hown
  clear hown hgrow
  have hlN := slice_len (some ⟨w1.heap.size, 0, none⟩) N N
  have hl0 := slice_len none 0 0
  have S1 := Lib.hid (fun w => seal_early w key nonce (.slice none 0 0) (.slice (some ⟨w1.heap.size, 0, none⟩) N N) 0 N hl0 hlN (by omega) (by omega) (by omega))
  have S2 := Lib.hid (fun w => seal_early w key nonce (.slice (some ⟨w1.heap.size, 0, none⟩) N N) (.slice none 0 0) N 0 hlN hl0 (by omega) (by omega) (by omega))
  have O1 := Lib.hid (fun w v h => open_early w key nonce (.slice none 0 0) v 0 N hl0 h (by omega) (by omega) (by omega))
  have O2 := Lib.hid (fun w v h => open_early w key nonce (.slice (some ⟨w1.heap.size, 0, none⟩) N N) v N 0 hlN h (by omega) (by omega) (by omega))
  have O3 := Lib.hid (fun w v h => open_short w key nonce (.slice (some ⟨w1.heap.size, 0, none⟩) N N) v m h hm1)
  clear hlN hl0
  generalize hs1 : w1.heap.size = g at *
  have HS1 := Lib.hid (fun _ : Unit => hs1)
  have hgs : g ≤ w1.heap.size := by omega
  clear hs1
  go_upto_region 3 with (first
    | (refine wp_load_f rfl 22 (.tmp 21) rfl rfl (k0 _ hb2) ?_)
    | (refine wp_load_f rfl 24 (.tmp 23) rfl rfl (k1 _ hb2) ?_)
    | (go_at_call 30; refine (S1.out _).mono ?_; rintro e w3 ⟨rfl, hb3'⟩; have hb3 : Below g w1 w3 := bw_then hb2 hb3' (Nat.le_trans hgs hb2.size)))
  have hg2 : g ≤ w2.heap.size := Nat.le_trans hgs hb2.size
  have hg3 : g ≤ w3.heap.size := Nat.le_trans hg2 hb3'.size
  go_upto_region 4 with (first
    | (refine wp_load_f rfl 22 (.tmp 30) rfl rfl (k0 _ hb3) ?_)
    | (refine wp_load_f rfl 24 (.tmp 32) rfl rfl (k1 _ hb3) ?_)
    | (go_at_call 30; refine (S2.out _).mono ?_; rintro e w4 ⟨rfl, hb4'⟩; have hb4 : Below g w1 w4 := bw_then hb3 hb4' hg3; have hg4 : g ≤ w4.heap.size := Nat.le_trans hg3 hb4'.size))
  have HO4 := ownsRow_keep HO.out ((bw_then (Below.refl _ _) hb3' (Nat.le_refl _)).trans (hb4'.mono hb3'.size)) (Nat.le_refl _)
  clear hb4' hb3'
  have ho4 : w4.drew.ownsRow g 5 1 (.slice (some ⟨g, 0, none⟩) N N) N (madeCells (Value.cells (Value.int .u8 0)) (N * 1)).toList := HO4
  clear hb2 hb3 HO4
  have hd4 : Below g w1 w4.drew := bw_d1 hb4
  refine region_plan ⟨[0, 1, 0, 4, 0, 16, 63, 127, 255, 255, 511, 2047], [5, 6], [0, 0, 0, 0, 0, 0, 1, 2, 2, 2, 2, 2]⟩
    [⟨[0, 1, 2, 3, 4], [0, 1, 2, 3], some 5⟩, ⟨[], [0, 1, 2, 3], some 6⟩, ⟨[7, 8, 9, 10, 11], [8, 9], none⟩] 91 (by kernel_rfl) (by kernel_rfl) (by kernel_rfl) (by kernel_rfl) rfl ?_
  simp only [SeqGo, opsAt_cons, opsAt_nil, List.getElem?_cons, Option.toList_some, List.singleton_append, ↓reduceIte, Nat.reduceEqDiff, Nat.reduceSub]
  go_wp2_with (first
    | (refine wp_load_f rfl 22 (.tmp 39) rfl rfl (k0 _ hd4) ?_)
    | (refine wp_load_f rfl 24 (.tmp 41) rfl rfl (k1 _ hd4) ?_))
  refine ⟨⟨by (simp only [Same]; go_simp), same_load rfl 22 (.tmp 39) rfl rfl (k0 _ hd4) rfl, by (simp only [Same]; go_simp), same_load rfl 24 (.tmp 41) rfl rfl (k1 _ hd4) rfl, trivial⟩, ?_⟩
  go_wp2_with (at_builtin; refine wp_app_zeros (m := 16) (kx := .i64) (.tmp 43) (.const (.int .i64 16)) 30 3 rfl rfl 5 (.int .u8 0) 1 Tryd.underlying30 Tryd.underlying3 info5 rfl rfl g rfl ho4 rfl (by decide) (by omega) hg4 ?_; intro v5 w5 ho5 _ hb5')
  have hb5 : Below g w1 w5 := hd4.trans hb5'
  have hg5 : g ≤ w5.heap.size := Nat.le_trans hg4 hb5'.size
  have hl5 := len_fact (P := Tryd.prog) (Rd.of_own ho5) (t := 30) (ty := 3) (by kernel_rfl)
  have hn5 := ho5.1
  simp only [Nat.mul_one] at hn5 hl5
  rw [hn5] at hl5
  clear ho5 hb5' hd4 ho4
  refine ⟨⟨by (simp only [Same]; go_simp), same_load rfl 22 (.tmp 39) rfl rfl (k0 _ hb5) rfl, by (simp only [Same]; go_simp), same_load rfl 24 (.tmp 41) rfl rfl (k1 _ hb5) rfl, trivial⟩, ?_⟩
  go_wp2_with (go_at_call 31; refine (O1.out _ _ hl5).mono ?_; rintro e w6 ⟨rfl, hb6'⟩)
  have hb6 : Below g w1 w6 := bw_then hb5 hb6' hg5
  have hg6 : g ≤ w6.heap.size := Nat.le_trans hg5 hb6'.size
  clear hb6' hl5 hn5
  refine ⟨by (simp only [Sames, Same]; go_simp), ?_⟩
  go_upto_region 5 with fail
  have hd6 : Below g w1 w6.drew := bw_d1 hb6
  refine region_plan ⟨[0, 1, 0, 4, 0, 0, 63, 127, 255, 255, 511, 2047], [5, 6], [0, 0, 0, 0, 0, 0, 1, 2, 2, 2, 2, 2]⟩
    [⟨[0, 1, 2, 3, 4], [0, 1, 2, 3], some 5⟩, ⟨[], [0, 1, 2, 3], some 6⟩, ⟨[7, 8, 9, 10, 11], [8, 9], none⟩] 91 (by kernel_rfl) (by kernel_rfl) (by kernel_rfl) (by kernel_rfl) rfl ?_
  simp only [SeqGo, opsAt_cons, opsAt_nil, List.getElem?_cons, Option.toList_some, List.singleton_append, ↓reduceIte, Nat.reduceEqDiff, Nat.reduceSub]
  go_wp2_with (first
    | (refine wp_load_f rfl 22 (.tmp 49) rfl rfl (k0 _ hd6) ?_)
    | (refine wp_load_f rfl 24 (.tmp 51) rfl rfl (k1 _ hd6) ?_))
  refine ⟨⟨by (simp only [Same]; go_simp), same_load rfl 22 (.tmp 49) rfl rfl (k0 _ hd6) rfl, by (simp only [Same]; go_simp), same_load rfl 24 (.tmp 51) rfl rfl (k1 _ hd6) rfl, trivial⟩, ?_⟩
  go_wp2_with (refine wpList_make_full w6.drew rfl (.const (.int .i64 16)) (.const (.int .i64 16)) 30 rfl w6.heap.size 5 i _ 1 Tryd.underlying30 hi hz0 hz1 .i64 .i64 _ _ 16 rfl rfl rfl rfl (by rw [hz2]; omega) (by unfold maxLen; omega) (Nat.le_refl _) ?_; intro w7 _ hgrow)
  have hb7 : Below g w1 w7 := bw_then hd6 ((Below.refl _ _).grown hgrow (Nat.le_refl _) (fun k h => by cases h)) hg6
  have hg7 : g ≤ w7.heap.size := Nat.le_trans hg6 hgrow.size
  clear hgrow hd6
  refine ⟨⟨by (simp only [Same]; go_simp), same_load rfl 22 (.tmp 49) rfl rfl (k0 _ hb7) rfl, by (simp only [Same]; go_simp), same_load rfl 24 (.tmp 51) rfl rfl (k1 _ hb7) rfl, trivial⟩, ?_⟩
  go_wp2_with (go_at_call 31; refine (O2.out _ _ (slice_len _ 16 16)).mono ?_; rintro e w8 ⟨rfl, hb8'⟩)
  have hb8 : Below g w1 w8 := bw_then hb7 hb8' hg7
  have hg8 : g ≤ w8.heap.size := Nat.le_trans hg7 hb8'.size
  clear hb8'
  refine ⟨by (simp only [Sames, Same]; go_simp), ?_⟩
  go_upto_region 6 with fail
  have hd8 : Below g w1 w8.drew := bw_d1 hb8
  refine region_plan ⟨[0, 1, 0, 4, 0, 0, 32, 96, 255, 511, 1023, 1023, 2047, 8191], [7, 8], [0, 0, 0, 0, 0, 0, 0, 0, 1, 2, 2, 2, 2, 2]⟩
    [⟨[0, 1, 2, 3, 4, 5, 6], [0, 1, 2, 3, 6], some 7⟩, ⟨[], [0, 1, 2, 3], some 8⟩, ⟨[9, 10, 11, 12, 13], [10, 11], none⟩] 91 (by kernel_rfl) (by kernel_rfl) (by kernel_rfl) (by kernel_rfl) rfl ?_
  simp only [SeqGo, opsAt_cons, opsAt_nil, List.getElem?_cons, Option.toList_some, List.singleton_append, ↓reduceIte, Nat.reduceEqDiff, Nat.reduceSub]
  go_wp2_with (first
    | (refine wp_load_f rfl 22 (.tmp 59) rfl rfl (k0 _ hd8) ?_)
    | (refine wp_load_f rfl 24 (.tmp 61) rfl rfl (k1 _ hd8) ?_))
  refine ⟨⟨by (simp only [Same]; go_simp), same_load rfl 22 (.tmp 59) rfl rfl (k0 _ hd8) rfl, by (simp only [Same]; go_simp), same_load rfl 24 (.tmp 61) rfl rfl (k1 _ hd8) rfl, by (simp only [Same]; go_simp), trivial⟩, ?_⟩
  go_wp2_with (refine wpList_make_full w8.drew rfl (.tmp 65) (.tmp 65) 30 rfl w8.heap.size 5 i _ 1 Tryd.underlying30 hi hz0 hz1 .u8 .u8 _ _ m rfl rfl rfl rfl (by rw [hz2]; omega) (by unfold maxLen; omega) (Nat.le_refl _) ?_; intro w9 _ hgrow)
  have hb9 : Below g w1 w9 := bw_then hd8 ((Below.refl _ _).grown hgrow (Nat.le_refl _) (fun k h => by cases h)) hg8
  have hg9 : g ≤ w9.heap.size := Nat.le_trans hg8 hgrow.size
  clear hgrow hd8
  refine ⟨⟨by (simp only [Same]; go_simp), same_load rfl 22 (.tmp 59) rfl rfl (k0 _ hb9) rfl, by (simp only [Same]; go_simp), same_load rfl 24 (.tmp 61) rfl rfl (k1 _ hb9) rfl, trivial⟩, ?_⟩
  go_wp2_with (go_at_call 31; refine (O3.out _ _ (slice_len _ m m)).mono ?_; rintro e w10 ⟨rfl, hb10'⟩)
  have hb10 : Below g w1 w10 := bw_then hb9 hb10' hg9
  have hg10 : g ≤ w10.heap.size := Nat.le_trans hg9 hb10'.size
  clear hb10'
  refine ⟨by (simp only [Sames, Same]; go_simp), ?_⟩
  go_wp2_with (go_at_call 26; refine (AW.out _ hb10).mono ?_; rintro e w11 ⟨rfl, hb11⟩)
  all_goals go_ret
  exact ⟨rfl, by rw [hB]; exact BB.out.trans ((bw_then hb10 hb11 hg10).mono (by omega))⟩

set_option maxRecDepth 100000 in
theorem contract (H : Type) (enc : TypeId × Value → H) (W : World) (base : Nat) (args : Array Value) (ds gs : List (DataW H)) (before : List MemPlace)
    (hval : ∀ (j : Nat) t v, Tryd.f11.params[j]? = some t → args[j]? = some v → Value.okWide Tryd.prog W .any base t v)
    (hW : DataW.Whole enc Tryd.prog Tryd.f11.params.toList Rows.aeadLongSpec.vars false W args.toList ds gs before) (hL : laidMetH Tryd.prog Rows.aeadLongRow.laid W) :
    Calls Tryd.prog 11 args W fun e W' => ∃ v, e = .returned v ∧ Rows.aeadLongSpec.post enc Tryd.prog Tryd.f11 false true false false W args v W' := by
  have hW' := hW
  obtain ⟨p, q, hA0, hV, rfl, hfz, hnd⟩ := hW
  have hA : DataW.TrodAll enc Tryd.prog W 0 (fun _ => true) true Tryd.f11.params.toList args.toList ds p := hA0
  rw [Tryd.params11] at hA hval
  obtain ⟨v0, vs0, d0, ds0, p0, q0, hargs0, rfl, rfl, h0, r0⟩ := trodAll_cons hA
  obtain ⟨v1, vs1, d1, ds1, p1, q1, hargs1, e1, rfl, h1, r1⟩ := trodAll_cons r0
  subst e1
  obtain ⟨e9, e8, e7⟩ := trodAll_nil r1
  subst e9 e8 e7
  obtain rfl : args = #[v0, v1] := by cases args; simp_all
  obtain ⟨rfl, rfl⟩ := trodVars_none hV
  have hv0 := hval 0 _ v0 rfl rfl
  have hv1 := hval 1 _ v1 rfl rfl
  clear hA0
  obtain ⟨fuel0, hf0⟩ := h0
  obtain ⟨fuel1, hf1⟩ := h1
  obtain ⟨key0, nonce0, va0, ad0, hk0, hn0, hkb0, hnb0, hab0, hra0, hcs0⟩ := with_of_trod hf0
  obtain ⟨x0, rfl⟩ : ∃ cs, v0 = .agg cs := by simp only [Value.okWide] at hv0; obtain ⟨cs, h, _⟩ := hv0; exact ⟨cs, h⟩
  obtain rfl : x0 = (withV key0 nonce0 va0).toArray := by apply Array.toList_inj.1; simpa [Value.cells] using hcs0
  rw [one_of_ok Tryd.underlying5 rfl hv1] at hf1
  obtain ⟨z1, hcs1, hlo1, hhi1⟩ := int_of_trod Tryd.underlying5 hf1
  obtain rfl : v1 = .int .u8 z1 := by simpa using hcs1
  refine (walk W key0 nonce0 va0 z1 hk0 hn0 ⟨hlo1, hhi1⟩ (tab_of_laid hL)).mono fun e W' ⟨he, hb⟩ => ⟨_, he, ?_⟩
  exact law_post Tryd.laidOut (by kernel_rfl) (by kernel_rfl) Tryd.underlying4 rfl rfl rfl rfl hW' hb

/-- A WORLD FOR THE WITNESS: the settled one, the table (block 0) holding what its initialiser lays. -/
noncomputable def laidWorld (os : Os) : World :=
  { World.holding Tryd.prog os ⟨#[], #[], []⟩ with heap := (World.holding Tryd.prog os ⟨#[], #[], []⟩).heap.modify 0 fun
      | .cells _ t frozen => .cells (ns rowsL).toArray t frozen
      | o => o }
def wit : Array Value := #[.agg (withV (List.replicate 32 0) (List.replicate 12 0) (.slice none 0 0)).toArray, .int .u8 0]
theorem laid_met (os : Os) : laidMet Tryd.prog Rows.aeadLongRow.laid ((laidWorld os).forCall (fun _ _ => 0) ⟨#[], wit, []⟩).memory :=
  laidMet_of_run' 8 (by kernel_rfl) (by kernel_rfl)
theorem reads (os : Os) {H : Type} (enc : TypeId × Value → H) : ∃ ds places, DataW.whole enc Tryd.prog ((laidWorld os).forCall (fun _ _ => 0) ⟨#[], wit, []⟩).memory Tryd.f11.params.toList Rows.aeadLongSpec.vars false wit.toList 8 = some (ds, [], places) :=
  ⟨[.agg [.agg (List.replicate 32 (.lit (.int .u8 0))), .agg (List.replicate 12 (.lit (.int .u8 0))), .nil], .lit (.int .u8 0)], [], by kernel_rfl⟩

set_option maxRecDepth 100000 in
theorem lifted (os : Os) (started : os.Started) (H : Type) (enc : TypeId × Value → H) (F : Stop.Interp) :
    ReturnsInHanded {} Tryd.checked os 11 .any ((OpenSpec.ofChange Rows.aeadLongSpec).preRow enc Tryd.prog Tryd.f11 Rows.aeadLongRow.domain false Rows.aeadLongRow.laid) (((OpenSpec.ofChange Rows.aeadLongSpec).at F).post enc Tryd.prog Tryd.f11 false true false false) := by
  obtain ⟨ds, places, hx⟩ := reads os enc
  refine returnsInHanded_of_row (C := Tryd.checked) (s := OpenSpec.ofChange Rows.aeadLongSpec) Tryd.own started (by kernel_rfl) Tryd.func11
    (witness_row_at (enc := enc) (C := Tryd.checked) false (laidWorld os) wit rfl (by kernel_rfl) (by kernel_rfl) (by kernel_rfl)
      (OpenSpec.preRow_of_cond 8 hx (by kernel_rfl) (fun k hk => by cases hk) (by kernel_rfl) (laid_met os))) ?_
  intro W base args ds gs before hval hW _ _ _ hL _ _
  exact contract H enc W base args ds gs before hval hW hL

theorem said : Rows.AeadLongSaid :=
  OpenClaim.holds_of_cond 11 Tryd.f11 rfl rfl rfl rfl rfl rfl rfl ⟨rfl, rfl, rfl, rfl, rfl⟩ rfl rfl rfl rfl rfl (by kernel_rfl) Tryd.func11 (by kernel_rfl)
    (of_decide_eq_true (by kernel_rfl)) (by unfold Func.isWrapper; first | (rw [if_pos (by decide +kernel)]; kernel_rfl) | (rw [if_neg (by decide +kernel)]; exact ⟨rfl, rfl⟩))
    (fun os started H enc _ F => by rw [OpenClaim.pre_eq_preRow]; exact lifted os started H enc F)

/-- No parameter wants a stand-in; the program's own looks are off. -/
theorem plain (f : FuncId) (fn : Func) (hf : Tryd.pinned.checked.prog.funcNamed "intaglio/intagliolaw04.AeadLong" = some f) (hfn : Tryd.pinned.checked.prog.funcs[f]? = some fn) :
    false = Tryd.pinned.checked.prog.looks [] ∧ ∀ (j : Nat) t, fn.params[j]? = some t → Tryd.pinned.checked.prog.wantsStandIn t = false := by
  obtain rfl : f = 11 := Option.some.inj ((show Tryd.prog.funcNamed "intaglio/intagliolaw04.AeadLong" = some 11 by kernel_rfl).symm.trans hf) |>.symm
  obtain rfl : fn = Tryd.f11 := (Option.some.inj (Tryd.func11.symm.trans hfn)).symm
  refine ⟨by kernel_rfl, fun j t ht => ?_⟩
  rw [Tryd.params11] at ht
  have hall : (#[52, 5].toList.all fun u => !Tryd.prog.wantsStandIn u) = true := by kernel_rfl
  exact (show Tryd.prog.wantsStandIn t = false by simpa using List.all_eq_true.1 hall t (by simpa using Array.mem_of_getElem? ht))

/-- THE CARD. -/
theorem proved : Rows.AeadLongCardSaid :=
  Claim7.holds_tied_plain_at .later [] _ _ _ _ said (fun _ h => by cases h) (by kernel_rfl) (fun _ h => by cases h) aeadLong_row_tie rfl ⟨rfl, rfl⟩ (by kernel_rfl) rfl plain (by kernel_rfl)
end Go.Proofs.YtmjjnaaiakchhaaDoor.lawAeadLong
