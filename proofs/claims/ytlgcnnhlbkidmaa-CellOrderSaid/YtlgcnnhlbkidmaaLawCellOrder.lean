/-
  The statement CellOrder: of any two pins that are not one just one stands ahead, and through a third one too. No condition.
-/
import Derived.Test.YtlgcnnhlbkidmaaAwakeC
import Derived.Test.YtlgcnnhlbkidmaaArgs
namespace Go.Proofs.Ytlgcnnhlbkidmaa.lawCellOrder
open Go.ChangeShapes Go.WideShapes Go.ChangeAt Go.RowKit

theorem irrefl (a b : Int) : lessP a b a b = false := by simp [lessP]
theorem tri (a0 a1 b0 b1 c0 c1 : Int) : (lessP a0 a1 b0 b1 = false ∧ lessP b0 b1 a0 a1 = false ∧ a0 = b0 ∧ a1 = b1) ∨ (lessP a0 a1 b0 b1 = false ∧ lessP b0 b1 a0 a1 = true ∧ (¬ a0 = b0 ∨ (a0 = b0 ∧ ¬ a1 = b1))) ∨
    (lessP a0 a1 b0 b1 = true ∧ lessP b0 b1 c0 c1 = false ∧ (¬ a0 = b0 ∨ (a0 = b0 ∧ ¬ a1 = b1))) ∨ (lessP a0 a1 b0 b1 = true ∧ lessP b0 b1 c0 c1 = true ∧ lessP a0 a1 c0 c1 = true ∧ (¬ a0 = b0 ∨ (a0 = b0 ∧ ¬ a1 = b1))) := by
  unfold lessP
  simp only [Bool.or_eq_false_iff, Bool.or_eq_true, Bool.and_eq_true, decide_eq_true_eq, decide_eq_false_iff_not, Bool.and_eq_false_imp]
  omega

set_option maxHeartbeats 4000000 in
theorem walk (a0 a1 b0 b1 c0 c1 : Int) (w : World) :
    Calls Try.prog 5 #[.agg #[.int .i64 a0, .int .i64 a1], .agg #[.int .i64 b0, .int .i64 b1], .agg #[.int .i64 c0, .int .i64 c1]] w fun e w' => Holds e w w' := by
  obtain ⟨B, hB⟩ : ∃ B, w.heap.size = B := ⟨_, rfl⟩
  go_enter Try.func5, Try.ntmps5
  go_upto_region 1 with fail
  have q1 : Blk (((w.alloc (.cells #[.int .i64 a0, .int .i64 a1] 39)).alloc (.cells #[.int .i64 b0, .int .i64 b1] 39)).alloc (.cells #[.int .i64 c0, .int .i64 c1] 39)) B [.int .i64 a0, .int .i64 a1] 39 := ((Blk.mk_ _ hB.symm rfl).al _).al _
  have q2 : Blk (((w.alloc (.cells #[.int .i64 a0, .int .i64 a1] 39)).alloc (.cells #[.int .i64 b0, .int .i64 b1] 39)).alloc (.cells #[.int .i64 c0, .int .i64 c1] 39)) (B + 1) [.int .i64 b0, .int .i64 b1] 39 := (Blk.mk_ _ (by simp [hB]) rfl).al _
  have q3 : Blk (((w.alloc (.cells #[.int .i64 a0, .int .i64 a1] 39)).alloc (.cells #[.int .i64 b0, .int .i64 b1] 39)).alloc (.cells #[.int .i64 c0, .int .i64 c1] 39)) (B + 2) [.int .i64 c0, .int .i64 c1] 39 := Blk.mk_ _ (by simp [hB]) rfl
  have bb : Below B w (((w.alloc (.cells #[.int .i64 a0, .int .i64 a1] 39)).alloc (.cells #[.int .i64 b0, .int .i64 b1] 39)).alloc (.cells #[.int .i64 c0, .int .i64 c1] 39)) := bw_al (bw_al (bw_al (Below.refl _ _) (by omega) _) (by simp; omega) _) (by simp; omega) _
  generalize (((w.alloc (.cells #[.int .i64 a0, .int .i64 a1] 39)).alloc (.cells #[.int .i64 b0, .int .i64 b1] 39)).alloc (.cells #[.int .i64 c0, .int .i64 c1] 39)) = w1 at *
  have m1 := q1.lt
  have m3 := q3.lt
  have k0 : ∀ w', Below w1.heap.size w1 w' → w'.cell? ⟨B, 0, none⟩ = some (.int .i64 a0) := fun w' h => (q1.stay h).at_ 0 rfl
  have k1 : ∀ w', Below w1.heap.size w1 w' → w'.cell? ⟨B, 1, none⟩ = some (.int .i64 a1) := fun w' h => (q1.stay h).at_ 1 rfl
  have k2 : ∀ w', Below w1.heap.size w1 w' → w'.cell? ⟨B + 1, 0, none⟩ = some (.int .i64 b0) := fun w' h => (q2.stay h).at_ 0 rfl
  have k3 : ∀ w', Below w1.heap.size w1 w' → w'.cell? ⟨B + 1, 1, none⟩ = some (.int .i64 b1) := fun w' h => (q2.stay h).at_ 1 rfl
  have k4 : ∀ w', Below w1.heap.size w1 w' → w'.cell? ⟨B + 1 + 1, 0, none⟩ = some (.int .i64 c0) := fun w' h => (q3.stay h).at_ 0 rfl
  have k5 : ∀ w', Below w1.heap.size w1 w' → w'.cell? ⟨B + 1 + 1, 1, none⟩ = some (.int .i64 c1) := fun w' h => (q3.stay h).at_ 1 rfl
  have s0 : Below w1.heap.size w1 w1 := Below.refl _ _
  have bfin : ∀ w', Below w1.heap.size w1 w' → Below w.heap.size w w' := fun w' h => by rw [hB]; exact bw_then bb h (by omega)
  clear q1 q2 q3 bb
  have t0 := irrefl a0 a1
  rcases tri a0 a1 b0 b1 c0 c1 with ⟨hl1, hl2, rfl, rfl⟩ | ⟨hl1, hl2, hz⟩ | ⟨hl1, hl2, hz⟩ | ⟨hl1, hl2, hl3, hz⟩
  all_goals (
    refine region_plan ⟨[0, 0, 3, 0, 0, 31, 63, 127, 255, 255, 1023, 2047], [2, 5, 10], [0, 0, 0, 0, 0, 1, 2, 2, 2, 2, 2, 3]⟩
      [⟨[0, 1, 3, 4], [0, 1, 3, 4], some 2⟩, ⟨[], [3, 4], some 5⟩, ⟨[6, 7, 8, 9], [6, 8, 9], some 10⟩, ⟨[11], [], none⟩] 55 (by kernel_rfl) (by kernel_rfl) (by kernel_rfl) (by kernel_rfl) rfl ?_
    simp only [SeqGo, opsAt_cons, opsAt_nil, List.getElem?_cons, Option.toList_some, List.singleton_append, ↓reduceIte, Nat.reduceEqDiff, Nat.reduceSub]
    go_wp2_with fail
    refine ⟨by (simp only [Sames, Same]; go_simp), ?_⟩
    go_wp2_with (first
      | (go_at_call 28; refine (less_any _ _ _ _ _).mono ?_; rintro e9 w9 ⟨rfl, hbl⟩; have hbl9 : Below w1.heap.size w1 w9 := bw_next (by first | assumption | (exact bw_d1 s0) | (exact bw_d1 (by assumption))) hbl; clear hbl)
      | (go_at_call 29; refine (rless_any _ _ _ _ _).mono ?_; rintro e9 w9 ⟨rfl, hbl⟩; have hbl9 : Below w1.heap.size w1 w9 := bw_next (by first | assumption | (exact bw_d1 s0) | (exact bw_d1 (by assumption))) hbl; clear hbl)
      | (go_at_call 30; refine (awake10_any _).mono ?_; rintro e9 w9 ⟨rfl, hbl⟩; have hbl9 : Below w1.heap.size w1 w9 := bw_next (by first | assumption | (exact bw_d1 s0) | (exact bw_d1 (by assumption))) hbl; clear hbl))
    refine ⟨by (simp only [Sames, Same]; go_simp), ?_⟩
    go_wp2_with (first
      | (go_at_call 28; refine (less_any _ _ _ _ _).mono ?_; rintro e9 w9 ⟨rfl, hbl⟩; have hbl9 : Below w1.heap.size w1 w9 := bw_next (by first | assumption | (exact bw_d1 s0) | (exact bw_d1 (by assumption))) hbl; clear hbl)
      | (go_at_call 29; refine (rless_any _ _ _ _ _).mono ?_; rintro e9 w9 ⟨rfl, hbl⟩; have hbl9 : Below w1.heap.size w1 w9 := bw_next (by first | assumption | (exact bw_d1 s0) | (exact bw_d1 (by assumption))) hbl; clear hbl)
      | (go_at_call 30; refine (awake10_any _).mono ?_; rintro e9 w9 ⟨rfl, hbl⟩; have hbl9 : Below w1.heap.size w1 w9 := bw_next (by first | assumption | (exact bw_d1 s0) | (exact bw_d1 (by assumption))) hbl; clear hbl))
    refine ⟨by (simp only [Sames, Same]; go_simp), ?_⟩
    go_wp2_with (first
      | (go_at_call 28; refine (less_any _ _ _ _ _).mono ?_; rintro e9 w9 ⟨rfl, hbl⟩; have hbl9 : Below w1.heap.size w1 w9 := bw_next (by first | assumption | (exact bw_d1 s0) | (exact bw_d1 (by assumption))) hbl; clear hbl)
      | (go_at_call 29; refine (rless_any _ _ _ _ _).mono ?_; rintro e9 w9 ⟨rfl, hbl⟩; have hbl9 : Below w1.heap.size w1 w9 := bw_next (by first | assumption | (exact bw_d1 s0) | (exact bw_d1 (by assumption))) hbl; clear hbl)
      | (go_at_call 30; refine (awake10_any _).mono ?_; rintro e9 w9 ⟨rfl, hbl⟩; have hbl9 : Below w1.heap.size w1 w9 := bw_next (by first | assumption | (exact bw_d1 s0) | (exact bw_d1 (by assumption))) hbl; clear hbl))
    refine ⟨trivial, ?_⟩
    go_upto_region 3 with fail
    go_wp2_with (first
      | (go_at_call 28; refine (less_any _ _ _ _ _).mono ?_; rintro e9 w9 ⟨rfl, hbl⟩; have hbl9 : Below w1.heap.size w1 w9 := bw_next (by first | assumption | (exact bw_d1 s0) | (exact bw_d1 (by assumption))) hbl; clear hbl)
      | (go_at_call 29; refine (rless_any _ _ _ _ _).mono ?_; rintro e9 w9 ⟨rfl, hbl⟩; have hbl9 : Below w1.heap.size w1 w9 := bw_next (by first | assumption | (exact bw_d1 s0) | (exact bw_d1 (by assumption))) hbl; clear hbl)
      | (go_at_call 30; refine (awake10_any _).mono ?_; rintro e9 w9 ⟨rfl, hbl⟩; have hbl9 : Below w1.heap.size w1 w9 := bw_next (by first | assumption | (exact bw_d1 s0) | (exact bw_d1 (by assumption))) hbl; clear hbl))
    )
  all_goals (try (rcases hz with hz | ⟨rfl, hz⟩))
  all_goals (
    refine region_plan ⟨[0, 1, 3, 3, 15, 3, 3, 99, 227, 483, 995, 995, 4067, 8163, 16355, 32767, 65535, 131071, 262143, 524287, 1048575], [7, 12, 18], [0, 0, 0, 0, 0, 0, 0, 0, 1, 1, 1, 1, 1, 2, 2, 2, 2, 2, 2, 3, 3]⟩
      [⟨[0, 1, 2, 3, 4, 5, 6], [2, 3, 4, 5, 6], some 7⟩, ⟨[8, 9, 10, 11], [2, 3, 4, 8, 10, 11], some 12⟩, ⟨[13, 14, 15, 16, 17], [2, 3, 4, 13, 15], some 18⟩, ⟨[19, 20], [], none⟩] 55 (by kernel_rfl) (by kernel_rfl) (by kernel_rfl) (by kernel_rfl) rfl ?_
    simp only [SeqGo, opsAt_cons, opsAt_nil, List.getElem?_cons, Option.toList_some, List.singleton_append, ↓reduceIte, Nat.reduceEqDiff, Nat.reduceSub]
    go_wp2_with fail
    refine ⟨by (simp only [Sames, Same]; go_simp), ?_⟩
    go_wp2_with (first
      | (go_at_call 28; refine (less_any _ _ _ _ _).mono ?_; rintro e9 w9 ⟨rfl, hbl⟩; have hbl9 : Below w1.heap.size w1 w9 := bw_next (by first | assumption | (exact bw_d1 s0) | (exact bw_d1 (by assumption))) hbl; clear hbl)
      | (go_at_call 30; refine (awake10_any _).mono ?_; rintro e9 w9 ⟨rfl, hbl⟩; have hbl9 : Below w1.heap.size w1 w9 := bw_next (by first | assumption | (exact bw_d1 s0) | (exact bw_d1 (by assumption))) hbl; clear hbl))
    refine ⟨by (simp only [Sames, Same]; go_simp), ?_⟩
    go_wp2_with (first
      | (go_at_call 28; refine (less_any _ _ _ _ _).mono ?_; rintro e9 w9 ⟨rfl, hbl⟩; have hbl9 : Below w1.heap.size w1 w9 := bw_next (by first | assumption | (exact bw_d1 s0) | (exact bw_d1 (by assumption))) hbl; clear hbl)
      | (go_at_call 30; refine (awake10_any _).mono ?_; rintro e9 w9 ⟨rfl, hbl⟩; have hbl9 : Below w1.heap.size w1 w9 := bw_next (by first | assumption | (exact bw_d1 s0) | (exact bw_d1 (by assumption))) hbl; clear hbl))
    refine ⟨by (simp only [Sames, Same]; go_simp), ?_⟩
    go_wp2_with (first
      | (go_at_call 28; refine (less_any _ _ _ _ _).mono ?_; rintro e9 w9 ⟨rfl, hbl⟩; have hbl9 : Below w1.heap.size w1 w9 := bw_next (by first | assumption | (exact bw_d1 s0) | (exact bw_d1 (by assumption))) hbl; clear hbl)
      | (go_at_call 30; refine (awake10_any _).mono ?_; rintro e9 w9 ⟨rfl, hbl⟩; have hbl9 : Below w1.heap.size w1 w9 := bw_next (by first | assumption | (exact bw_d1 s0) | (exact bw_d1 (by assumption))) hbl; clear hbl))
    (try (refine ⟨trivial, ?_⟩))
    )
  all_goals go_wp2_with fail
  all_goals (go_ret; exact ⟨rfl, bfin _ (by assumption)⟩)

set_option maxRecDepth 100000 in
theorem contract (H : Type) (enc : TypeId × Value → H) (W : World) (base : Nat) (args : Array Value) (ds gs : List (DataW H)) (before : List MemPlace)
    (hval : ∀ (j : Nat) t v, Try.f5.params[j]? = some t → args[j]? = some v → Value.okWide Try.prog W .any base t v)
    (hW : DataW.Whole enc Try.prog Try.f5.params.toList Rows.cellOrderSpec.vars false W args.toList ds gs before) :
    Calls Try.prog 5 args W fun e W' => ∃ v, e = .returned v ∧ Rows.cellOrderSpec.post enc Try.prog Try.f5 false true false false W args v W' := by
  have hW' := hW
  obtain ⟨p, q, hA0, hV, rfl, hfz, hnd⟩ := hW
  have hA : DataW.TrodAll enc Try.prog W 0 (fun _ => true) true Try.f5.params.toList args.toList ds p := hA0
  rw [Try.params5] at hA hval
  obtain ⟨v0, vs0, d0, ds0, p0, q0, hargs0, rfl, rfl, h0, r0⟩ := trodAll_cons hA
  obtain ⟨v1, vs1, d1, ds1, p1, q1, hargs1, e1, rfl, h1, r1⟩ := trodAll_cons r0
  subst e1
  obtain ⟨v2, vs2, d2, ds2, p2, q2, hargs2, e2, rfl, h2, r2⟩ := trodAll_cons r1
  subst e2
  obtain ⟨e9, e8, e7⟩ := trodAll_nil r2
  subst e9 e8 e7
  obtain rfl : args = #[v0, v1, v2] := by cases args; simp_all
  obtain ⟨rfl, rfl⟩ := trodVars_none hV
  have hv0 := hval 0 _ v0 rfl rfl
  have hv1 := hval 1 _ v1 rfl rfl
  have hv2 := hval 2 _ v2 rfl rfl
  clear hA0
  obtain ⟨fuel0, hf0⟩ := h0
  obtain ⟨fuel1, hf1⟩ := h1
  obtain ⟨fuel2, hf2⟩ := h2
  obtain ⟨a0, a1, _, _, ha⟩ := pin_of_trod hf0
  obtain ⟨b0, b1, _, _, hb⟩ := pin_of_trod hf1
  obtain ⟨c0, c1, _, _, hc⟩ := pin_of_trod hf2
  obtain ⟨x0, rfl⟩ : ∃ cs, v0 = .agg cs := by simp only [Value.okWide] at hv0; obtain ⟨cs, h, _⟩ := hv0; exact ⟨cs, h⟩
  obtain ⟨x1, rfl⟩ : ∃ cs, v1 = .agg cs := by simp only [Value.okWide] at hv1; obtain ⟨cs, h, _⟩ := hv1; exact ⟨cs, h⟩
  obtain ⟨x2, rfl⟩ : ∃ cs, v2 = .agg cs := by simp only [Value.okWide] at hv2; obtain ⟨cs, h, _⟩ := hv2; exact ⟨cs, h⟩
  obtain rfl : x0 = #[.int .i64 a0, .int .i64 a1] := by apply Array.toList_inj.1; simpa [Value.cells] using ha
  obtain rfl : x1 = #[.int .i64 b0, .int .i64 b1] := by apply Array.toList_inj.1; simpa [Value.cells] using hb
  obtain rfl : x2 = #[.int .i64 c0, .int .i64 c1] := by apply Array.toList_inj.1; simpa [Value.cells] using hc
  refine (walk a0 a1 b0 b1 c0 c1 W).mono fun e W' ⟨he, hb⟩ => ⟨_, he, ?_⟩
  exact law_post Try.laidOut (by kernel_rfl) (by kernel_rfl) Try.underlying4 rfl rfl rfl rfl hW' hb

set_option maxRecDepth 100000 in
theorem lifted (os : Os) (started : os.Started) (H : Type) (enc : TypeId × Value → H) (F : Stop.Interp) :
    ReturnsInHanded {} Try.checked os 5 .any ((OpenSpec.ofChange Rows.cellOrderSpec).preRow enc Try.prog Try.f5 Rows.cellOrderRow.domain false Rows.cellOrderRow.laid) (((OpenSpec.ofChange Rows.cellOrderSpec).at F).post enc Try.prog Try.f5 false true false false) := by
  obtain ⟨places, hx⟩ : ∃ places, DataW.whole enc Try.prog ((World.holding Try.prog os ⟨#[], #[], []⟩).forCall (fun _ _ => 0) ⟨#[], #[.agg #[.int .i64 0, .int .i64 0], .agg #[.int .i64 0, .int .i64 0], .agg #[.int .i64 0, .int .i64 0]], []⟩).memory Try.f5.params.toList Rows.cellOrderSpec.vars false #[.agg #[.int .i64 0, .int .i64 0], .agg #[.int .i64 0, .int .i64 0], .agg #[.int .i64 0, .int .i64 0]].toList 8 = some ([.agg [.lit (.int .i64 0), .lit (.int .i64 0)], .agg [.lit (.int .i64 0), .lit (.int .i64 0)], .agg [.lit (.int .i64 0), .lit (.int .i64 0)]], [], places) := ⟨[], by kernel_rfl⟩
  refine returnsInHanded_of_row (C := Try.checked) (s := OpenSpec.ofChange Rows.cellOrderSpec) Try.own started (by kernel_rfl) Try.func5
    (witness_row_at (enc := enc) (C := Try.checked) false (World.holding Try.prog os ⟨#[], #[], []⟩) #[.agg #[.int .i64 0, .int .i64 0], .agg #[.int .i64 0, .int .i64 0], .agg #[.int .i64 0, .int .i64 0]] rfl (by kernel_rfl) (by kernel_rfl) (by kernel_rfl)
      (OpenSpec.preRow_of_cond 8 hx (by kernel_rfl) (fun k hk => by cases hk) (by kernel_rfl) (laid_none _ _))) ?_
  intro W base args ds gs before hval hW _ _ _ _ _ _
  exact contract H enc W base args ds gs before hval hW

theorem proved : Rows.CellOrderSaid :=
  OpenClaim.holds_of_cond 5 Try.f5 rfl rfl rfl rfl rfl rfl rfl ⟨rfl, rfl, rfl, rfl, rfl⟩ rfl rfl rfl rfl rfl (by kernel_rfl) Try.func5 (by kernel_rfl)
    (of_decide_eq_true (by kernel_rfl)) (by unfold Func.isWrapper; first | (rw [if_pos (by decide +kernel)]; kernel_rfl) | (rw [if_neg (by decide +kernel)]; exact ⟨rfl, rfl⟩))
    (fun os started H enc _ F => by rw [OpenClaim.pre_eq_preRow]; exact lifted os started H enc F)
end Go.Proofs.Ytlgcnnhlbkidmaa.lawCellOrder
