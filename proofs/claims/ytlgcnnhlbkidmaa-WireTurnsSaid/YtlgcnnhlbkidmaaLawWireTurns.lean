/-
  The statement WireTurns: any frame with a byte turned; turned once more it is as it was. No condition.
-/
import Derived.Test.YtlgcnnhlbkidmaaAwakeW
import Derived.Test.YtlgcnnhlbkidmaaTurnR
import Derived.Test.YtlgcnnhlbkidmaaEls
import Derived.Laws.BitsAllLaws
namespace Go.Proofs.Ytlgcnnhlbkidmaa.lawWireTurns
open Go.ChangeShapes Go.WideShapes Go.ChangeAt Go.RowKit

theorem xor_range {x y : Int} (hx : 0 ≤ x ∧ x ≤ 255) (hy : 0 ≤ y ∧ y ≤ 255) : 0 ≤ bits .xor .u8 x y ∧ bits .xor .u8 x y ≤ 255 := by
  obtain ⟨X, rfl⟩ := Int.eq_ofNat_of_zero_le hx.1
  obtain ⟨Y, rfl⟩ := Int.eq_ofNat_of_zero_le hy.1
  rw [u8_xor_nat X Y (by omega) (by omega)]
  have h5 : X ^^^ Y < 2 ^ 8 := Nat.xor_lt_two_pow (by omega) (by omega)
  omega
theorem xor_back {x y : Int} (hx : 0 ≤ x ∧ x ≤ 255) (hy : 0 ≤ y ∧ y ≤ 255) : bits .xor .u8 (bits .xor .u8 x y) y = x := by
  obtain ⟨X, rfl⟩ := Int.eq_ofNat_of_zero_le hx.1
  obtain ⟨Y, rfl⟩ := Int.eq_ofNat_of_zero_le hy.1
  have h5 : X ^^^ Y < 2 ^ 8 := Nat.xor_lt_two_pow (by omega) (by omega)
  rw [u8_xor_nat X Y (by omega) (by omega), u8_xor_nat (X ^^^ Y) Y h5 (by omega), Nat.xor_assoc, Nat.xor_self, Nat.xor_zero]
theorem turnB_isB {xs : List Int} (h : IsB xs) (at_ : Int) {y : Int} (hy : 0 ≤ y ∧ y ≤ 255) : IsB (turnB xs at_ y) := fun z hz => by
  rcases List.mem_or_eq_of_mem_set hz with hz | rfl
  · exact h z hz
  · exact xor_range (h.at_ _) hy
theorem turnB_len (xs : List Int) (at_ y : Int) : (turnB xs at_ y).length = xs.length := by simp [turnB]
theorem turnB_back {xs : List Int} (h : IsB xs) (at_ : Int) {y : Int} (hy : 0 ≤ y ∧ y ≤ 255) : turnB (turnB xs at_ y) at_ y = xs := by
  by_cases h0 : turnAt xs.length at_ < xs.length
  · have e : (turnB xs at_ y).getD (turnAt xs.length at_) 0 = bits .xor .u8 (xs.getD (turnAt xs.length at_) 0) y := by
      rw [turnB, List.getD_eq_getElem?_getD, List.getElem?_set_self h0]; rfl
    rw [turnB, turnB_len, e, xor_back (h.at_ _) hy, turnB, List.set_set]
    apply List.ext_getElem?
    intro j
    rw [List.getElem?_set]
    split
    · subst_vars
      rw [List.getD_eq_getElem?_getD, List.getElem?_eq_getElem h0]; rfl
    · rfl
  · rw [turnB, turnB_len, turnB]
    rw [List.set_eq_of_length_le (by rw [List.length_set]; omega), List.set_eq_of_length_le (by omega)]

set_option maxRecDepth 100000 in
set_option maxHeartbeats 2000000 in
theorem walk (w : World) (v : Value) (xs : List Int) (at_ by_ : Int) (hr : Rd w v (bs xs)) (hx : IsB xs) (_ha : -9223372036854775808 ≤ at_ ∧ at_ ≤ 9223372036854775807) (hy : 0 ≤ by_ ∧ by_ ≤ 255) :
    Calls Try.prog 3 #[v, .int .i64 at_, .int .u8 by_] w fun e w' => e = .returned (.bool true) ∧ Below w.heap.size w w' := by
  have hmx := hr.len
  rw [bs_len] at hmx
  have hlv : ∀ w', (Builtin.len_ #[22] 3 #[v]).run Try.prog w' = .ok (goInt xs.length) w' := by
    have := len_fact (P := Try.prog) hr (t := 22) (ty := 3) (by kernel_rfl)
    rwa [bs_len] at this
  have HR := Lib.hid hr
  have HX := Lib.hid hx
  have HTB := Lib.hid (turnB_isB hx at_ hy)
  have HTT := Lib.hid (fun _ : Unit => turnB_back hx at_ hy)
  have HTL := Lib.hid (fun _ : Unit => turnB_len xs at_ by_)
  have CL := Lib.hid (fun h => clone_any v xs w hr h)
  clear hr hx
  go_enter Try.func3, Try.ntmps3
  by_cases hl : 2000 < xs.length
  · go_wp2_with (go_at_call 16; refine (awake11_any w).mono ?_; rintro e w' ⟨rfl, hb'⟩)
    all_goals go_ret
    exact ⟨rfl, hb'⟩
  go_upto_region 4 with (go_at_call 17; refine (CL.out (by omega)).mono ?_; rintro e w1 ⟨vc, rfl, hb1, ho1⟩)
  have HC := Lib.hid (Rd.of_own ho1)
  have T1 := Lib.hid (wturn_any v xs at_ by_ w1 (HR.out.stay hb1 (Nat.le_refl _)) (by omega))
  clear ho1
  go_upto_region 5 with (go_at_call 18; refine T1.out.mono ?_; rintro e w2 ⟨vb, rfl, hb2, ho2⟩)
  have bl2 := bw_then hb1 hb2 hb1.size
  have HB := Lib.hid (Rd.of_own ho2)
  have T2 := Lib.hid (rturn_any vc xs at_ by_ w2 (HC.out.stay hb2 (Nat.le_refl _)) (by omega))
  have tok : True := trivial
  clear ho2
  go_wp2_with (first
    | (go_at_call 20; refine T2.out.mono ?_; rintro e w3 ⟨vd, rfl, hb3, ho3⟩; have E1 := Lib.hid (equal_any vb vd _ _ w3 (HB.out.stay hb3 (Nat.le_refl _)) (Rd.of_own ho3) HTB.out HTB.out); rw [show eqB (turnB xs at_ by_) (turnB xs at_ by_) = true by simp [eqB]] at E1; have T3 := Lib.hid (wturn_any vb _ at_ by_ w3 (HB.out.stay hb3 (Nat.le_refl _)) (by rw [HTL.out ()]; omega)); rw [HTT.out ()] at T3; clear ho3)
    | (go_at_call 19; have _t := tok; refine E1.out.mono ?_; rintro e w3' ⟨rfl, hw3⟩; subst hw3; clear tok; have tok2 : True := trivial)
    | (go_at_call 18; refine T3.out.mono ?_; rintro e w4 ⟨ve, rfl, hb4, ho4⟩; have E2 := Lib.hid (equal_any ve vc xs xs w4 (Rd.of_own ho4) ((HC.out.stay hb2 (Nat.le_refl _)).stay (bw_then hb3 hb4 hb3.size) (Nat.le_refl _)) HX.out HX.out); have E3 := Lib.hid (equal_any v vc xs xs w4 (HR.out.stay (bw_then bl2 (bw_then hb3 hb4 hb3.size) bl2.size) (Nat.le_refl _)) ((HC.out.stay hb2 (Nat.le_refl _)).stay (bw_then hb3 hb4 hb3.size) (Nat.le_refl _)) HX.out HX.out); rw [show eqB xs xs = true by simp [eqB]] at E2 E3; clear ho4)
    | (go_at_call 19; have _t := tok2; refine E2.out.mono ?_; rintro e w4' ⟨rfl, hw4⟩; subst hw4; clear tok2)
    | (go_at_call 19; refine E3.out.mono ?_; rintro e w4' ⟨rfl, hw4⟩; subst hw4)
    | (go_at_call 16; refine (awake11_any w4).mono ?_; rintro e w5 ⟨rfl, hb5⟩))
  all_goals go_ret
  exact ⟨rfl, bw_then (bw_then bl2 (bw_then hb3 hb4 hb3.size) bl2.size) hb5 (by have := bl2.size; have := hb3.size; have := hb4.size; omega)⟩

set_option maxRecDepth 100000 in
theorem contract (H : Type) (enc : TypeId × Value → H) (W : World) (base : Nat) (args : Array Value) (ds gs : List (DataW H)) (before : List MemPlace)
    (hval : ∀ (j : Nat) t v, Try.f3.params[j]? = some t → args[j]? = some v → Value.okWide Try.prog W .any base t v)
    (hW : DataW.Whole enc Try.prog Try.f3.params.toList Rows.wireTurnsSpec.vars false W args.toList ds gs before) :
    Calls Try.prog 3 args W fun e W' => ∃ v, e = .returned v ∧ Rows.wireTurnsSpec.post enc Try.prog Try.f3 false true false false W args v W' := by
  have hW' := hW
  obtain ⟨p, q, hA0, hV, rfl, hfz, hnd⟩ := hW
  have hA : DataW.TrodAll enc Try.prog W 0 (fun _ => true) true Try.f3.params.toList args.toList ds p := hA0
  rw [Try.params3] at hA hval
  obtain ⟨v0, vs0, d0, ds0, p0, q0, hargs0, rfl, rfl, h0, r0⟩ := trodAll_cons hA
  obtain ⟨v1, vs1, d1, ds1, p1, q1, hargs1, e1, rfl, h1, r1⟩ := trodAll_cons r0
  subst e1
  obtain ⟨v2, vs2, d2, ds2, p2, q2, hargs2, e2, rfl, h2, r2⟩ := trodAll_cons r1
  subst e2
  obtain ⟨e9, e8, e7⟩ := trodAll_nil r2
  subst e9 e8 e7
  obtain rfl : args = #[v0, v1, v2] := by cases args; simp_all
  obtain ⟨rfl, rfl⟩ := trodVars_none hV
  have hv0 := hval 0 _ v0 rfl rfl
  have hv1 := hval 1 _ v1 rfl rfl
  have hv2 := hval 2 _ v2 rfl rfl
  clear hA0
  obtain ⟨fuel0, hf0⟩ := h0
  obtain ⟨fuel1, hf1⟩ := h1
  obtain ⟨fuel2, hf2⟩ := h2
  rw [one_of_ok Try.underlying22 rfl hv0] at hf0
  obtain ⟨u0, xs0, hcs0, hb0, hr0⟩ := bytes_of_trod hf0
  obtain rfl : v0 = u0 := by simpa using hcs0
  rw [one_of_ok Try.underlying3 rfl hv1] at hf1
  obtain ⟨z1, hcs1, hlo1, hhi1⟩ := int_of_trod Try.underlying3 hf1
  obtain rfl : v1 = .int .i64 z1 := by simpa using hcs1
  rw [one_of_ok Try.underlying5 rfl hv2] at hf2
  obtain ⟨z2, hcs2, hlo2, hhi2⟩ := int_of_trod Try.underlying5 hf2
  obtain rfl : v2 = .int .u8 z2 := by simpa using hcs2
  refine (walk W v0 xs0 z1 z2 hr0 hb0 ⟨hlo1, hhi1⟩ ⟨hlo2, hhi2⟩).mono fun e W' ⟨he, hb⟩ => ⟨_, he, ?_⟩
  exact law_post Try.laidOut (by kernel_rfl) (by kernel_rfl) Try.underlying4 rfl rfl rfl rfl hW' hb

set_option maxRecDepth 100000 in
theorem lifted (os : Os) (started : os.Started) (H : Type) (enc : TypeId × Value → H) (F : Stop.Interp) :
    ReturnsInHanded {} Try.checked os 3 .any ((OpenSpec.ofChange Rows.wireTurnsSpec).preRow enc Try.prog Try.f3 Rows.wireTurnsRow.domain false Rows.wireTurnsRow.laid) (((OpenSpec.ofChange Rows.wireTurnsSpec).at F).post enc Try.prog Try.f3 false true false false) := by
  obtain ⟨places, hx⟩ : ∃ places, DataW.whole enc Try.prog ((World.holding Try.prog os ⟨#[], #[], []⟩).forCall (fun _ _ => 0) ⟨#[], #[.slice none 0 0, .int .i64 0, .int .u8 0], []⟩).memory Try.f3.params.toList Rows.wireTurnsSpec.vars false #[.slice none 0 0, .int .i64 0, .int .u8 0].toList 8 = some ([.nil, .lit (.int .i64 0), .lit (.int .u8 0)], [], places) := ⟨[], by kernel_rfl⟩
  refine returnsInHanded_of_row (C := Try.checked) (s := OpenSpec.ofChange Rows.wireTurnsSpec) Try.own started (by kernel_rfl) Try.func3
    (witness_row_at (enc := enc) (C := Try.checked) false (World.holding Try.prog os ⟨#[], #[], []⟩) #[.slice none 0 0, .int .i64 0, .int .u8 0] rfl (by kernel_rfl) (by kernel_rfl) (by kernel_rfl)
      (OpenSpec.preRow_of_cond 8 hx (by kernel_rfl) (fun k hk => by cases hk) (by kernel_rfl) (laid_none _ _))) ?_
  intro W base args ds gs before hval hW _ _ _ _ _ _
  exact contract H enc W base args ds gs before hval hW

theorem proved : Rows.WireTurnsSaid :=
  OpenClaim.holds_of_cond 3 Try.f3 rfl rfl rfl rfl rfl rfl rfl ⟨rfl, rfl, rfl, rfl, rfl⟩ rfl rfl rfl rfl rfl (by kernel_rfl) Try.func3 (by kernel_rfl)
    (of_decide_eq_true (by kernel_rfl)) (by unfold Func.isWrapper; first | (rw [if_pos (by decide +kernel)]; kernel_rfl) | (rw [if_neg (by decide +kernel)]; exact ⟨rfl, rfl⟩))
    (fun os started H enc _ F => by rw [OpenClaim.pre_eq_preRow]; exact lifted os started H enc F)
end Go.Proofs.Ytlgcnnhlbkidmaa.lawWireTurns
