/-
  The statement ChachaQuarter: for any four numbers the quarter round of the program is the reference's. No condition.
-/
import Derived.Test.YtmjjnaaiakchhaaQuarter
namespace Go.Proofs.Ytmjjnaaiakchhaa.lawChachaQuarter
open Go.ChangeShapes Go.WideShapes Go.ChangeAt Go.RowKit

theorem info22 : (Try.prog.info? 22).map (fun i => (i.zero, i.size, i.bytes)) = some (some (.int .u32 0), 1, 4) := by kernel_rfl

set_option maxHeartbeats 400000 in
theorem walk (a b c d : Int) (w : World) :
    Calls Try.prog 3 #[.agg #[.int .u32 a, .int .u32 b, .int .u32 c, .int .u32 d]] w fun e w' => Holds e w w' := by
  obtain ⟨i, hi, _, hz, _⟩ := info_parts info22
  have heq : ∀ (p q r s : Int) (w : World), (Op.equalIn 10000 23 (.agg #[.int .u32 p, .int .u32 q, .int .u32 r, .int .u32 s]) (.agg #[.int .u32 p, .int .u32 q, .int .u32 r, .int .u32 s])).run Try.prog w = .ok true w := fun p q r s w => by
    have := run_eq_ints (P := Try.prog) (w := w) 9998 23 22 4 .u32 [p, q, r, s] [p, q, r, s] rfl rfl Try.underlying23 Try.underlying22 i hi hz
    simpa using this
  go_enter Try.func3, Try.ntmps3
  go_wp2_with (first
    | (go_at_call 10; refine (quarter_any _ _ _ _ _).mono ?_; rintro e w' ⟨rfl, rfl⟩)
    | (go_at_call 11; refine (rquarter_any _ _ _ _ _).mono ?_; rintro e w' ⟨rfl, hb⟩)
    | (go_at_call 12; refine (awake02_any _).mono ?_; rintro e w' ⟨rfl, rfl⟩))
  go_ret
  exact ⟨rfl, bw_then (bw_al (Below.refl _ _) (Nat.le_refl _) _) hb (by simp)⟩

theorem contract (H : Type) (enc : TypeId × Value → H) (W : World) (base : Nat) (args : Array Value) (ds gs : List (DataW H)) (before : List MemPlace)
    (hval : ∀ (j : Nat) t v, Try.f3.params[j]? = some t → args[j]? = some v → Value.okWide Try.prog W .any base t v)
    (hW : DataW.Whole enc Try.prog Try.f3.params.toList Rows.chachaQuarterSpec.vars false W args.toList ds gs before) :
    Calls Try.prog 3 args W fun e W' => ∃ v, e = .returned v ∧ Rows.chachaQuarterSpec.post enc Try.prog Try.f3 false true false false W args v W' := by
  have hW' := hW
  obtain ⟨p, q, hA0, hV, rfl, hfz, hnd⟩ := hW
  have hA : DataW.TrodAll enc Try.prog W 0 (fun _ => true) true Try.f3.params.toList args.toList ds p := hA0
  rw [Try.params3] at hA hval
  obtain ⟨v0, vs0, d0, ds0, p0, q0, hargs, rfl, rfl, h0, r0⟩ := trodAll_cons hA
  obtain ⟨rfl, rfl, rfl⟩ := trodAll_nil r0
  obtain rfl : args = #[v0] := by cases args; simp_all
  obtain ⟨rfl, rfl⟩ := trodVars_none hV
  have hv0 := hval 0 _ v0 rfl rfl
  clear hA0
  obtain ⟨fuel, hf⟩ := h0
  obtain ⟨zs, hzl, hcs, hwf⟩ := trod_arr_ints Try.underlying23 Try.underlying22 (by kernel_rfl) (by kernel_rfl) hf
  obtain ⟨cs, rfl⟩ : ∃ cs, v0 = .agg cs := by
    simp only [Value.okWide] at hv0
    obtain ⟨cs, h, _⟩ := hv0
    exact ⟨cs, h⟩
  match zs, hzl with
  | [a, b, c, d], _ =>
    obtain rfl : cs = #[.int .u32 a, .int .u32 b, .int .u32 c, .int .u32 d] := by
      apply Array.toList_inj.1; simpa [Value.cells] using hcs
    refine (walk a b c d W).mono fun e W' ⟨he, hb⟩ => ⟨_, he, ?_⟩
    exact law_post Try.laidOut (by kernel_rfl) (by kernel_rfl) Try.underlying4 rfl rfl rfl rfl hW' hb

set_option maxRecDepth 100000 in
theorem lifted (os : Os) (started : os.Started) (H : Type) (enc : TypeId × Value → H) (F : Stop.Interp) :
    ReturnsInHanded {} Try.checked os 3 .any ((OpenSpec.ofChange Rows.chachaQuarterSpec).preRow enc Try.prog Try.f3 Rows.chachaQuarterRow.domain false Rows.chachaQuarterRow.laid) (((OpenSpec.ofChange Rows.chachaQuarterSpec).at F).post enc Try.prog Try.f3 false true false false) := by
  obtain ⟨places, hx⟩ : ∃ places, DataW.whole enc Try.prog ((World.holding Try.prog os ⟨#[], #[], []⟩).forCall (fun _ _ => 0) ⟨#[], #[.agg #[.int .u32 0, .int .u32 0, .int .u32 0, .int .u32 0]], []⟩).memory Try.f3.params.toList Rows.chachaQuarterSpec.vars false #[Value.agg #[.int .u32 0, .int .u32 0, .int .u32 0, .int .u32 0]].toList 8 = some ([.agg [.lit (.int .u32 0), .lit (.int .u32 0), .lit (.int .u32 0), .lit (.int .u32 0)]], [], places) := ⟨[], by kernel_rfl⟩
  refine returnsInHanded_of_row (C := Try.checked) (s := OpenSpec.ofChange Rows.chachaQuarterSpec) Try.own started (by kernel_rfl) Try.func3
    (witness_row_at (enc := enc) (C := Try.checked) false (World.holding Try.prog os ⟨#[], #[], []⟩) #[.agg #[.int .u32 0, .int .u32 0, .int .u32 0, .int .u32 0]] rfl (by kernel_rfl) (by kernel_rfl) (by kernel_rfl)
      (OpenSpec.preRow_of_cond 8 hx (by kernel_rfl) (fun k hk => by cases hk) (by kernel_rfl) (laid_none _ _))) ?_
  intro W base args ds gs before hval hW _ _ _ _ _ _
  exact contract H enc W base args ds gs before hval hW

theorem proved : Rows.ChachaQuarterSaid :=
  OpenClaim.holds_of_cond 3 Try.f3 rfl rfl rfl rfl rfl rfl rfl ⟨rfl, rfl, rfl, rfl, rfl⟩ rfl rfl rfl rfl rfl (by kernel_rfl) Try.func3 (by kernel_rfl)
    (of_decide_eq_true (by kernel_rfl)) (by unfold Func.isWrapper; first | (rw [if_pos (by decide +kernel)]; kernel_rfl) | (rw [if_neg (by decide +kernel)]; exact ⟨rfl, rfl⟩))
    (fun os started H enc _ F => by rw [OpenClaim.pre_eq_preRow]; exact lifted os started H enc F)
end Go.Proofs.Ytmjjnaaiakchhaa.lawChachaQuarter
