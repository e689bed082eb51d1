/-
  The statement CellNobody: a cell that no call made tells nothing. No condition.
-/
import Derived.Test.YtlgcnnhlbkidmaaAwakeC
import Derived.Test.YtlgcnnhlbkidmaaArgs
namespace Go.Proofs.Ytlgcnnhlbkidmaa.lawCellNobody
open Go.ChangeShapes Go.WideShapes Go.ChangeAt Go.RowKit

/-- A cell without a power. -/
theorem birth_down (c : CellM) (g : Nat) (w : World) (hb : Blk w g (c.cells (.pointer none)) 61) (hm : c.made = true) (hl : c.life < c.ml) : Calls Try.prog 37 #[.pointer (some ⟨g, 0, none⟩)] w fun e w' => e = .returned (.tuple #[.int .i64 0, .int .i64 8]) ∧ Below w.heap.size w w' := by
  obtain ⟨life, pl, pn, ml, mp, made⟩ := c
  simp only at hm hl
  subst hm
  have c0 : w.cell? ⟨g, 0, none⟩ = some (.pointer none) := hb.at_ 0 rfl
  have c1 : w.cell? ⟨g, 1, none⟩ = some (.int .i64 life) := hb.at_ 1 rfl
  have c4 : w.cell? ⟨g, 4, none⟩ = some (.int .i64 ml) := hb.at_ 4 rfl
  have c6 : w.cell? ⟨g, 6, none⟩ = some (.bool true) := hb.at_ 6 rfl
  have h1 : ¬ ml ≤ life := by omega
  go_enter Try.func37, Try.ntmps37
  go_upto_region 3 with fail
  go_quiet (fail)
  go_wp2_with (go_at_call 51; refine (act_nil _).mono ?_; rintro e2 w2 ⟨rfl, hw2⟩; subst hw2)
  all_goals go_ret2
  exact ⟨rfl, bw_dr (Below.refl _ _) _⟩

set_option maxRecDepth 100000 in
set_option maxHeartbeats 4000000 in
theorem walk (a b : Int) (w : World) : Calls Try.prog 8 #[.agg #[.int .i64 a, .int .i64 b]] w fun e w' => Holds e w w' := by
  obtain ⟨B, hB⟩ : ∃ B, w.heap.size = B := ⟨_, rfl⟩
  go_enter Try.func8, Try.ntmps8
  go_upto_region 2 with fail
  have q1 : Blk (((w.alloc (.cells #[.int .i64 a, .int .i64 b] 39)).alloc (.cells #[.pointer none, .int .i64 0, .int .i64 0, .int .i64 0, .int .i64 0, .int .i64 0, .bool false] 61)).alloc (.cells #[.pointer none, .pointer (some ⟨B + 1, 0, none⟩)] 58)) B [.int .i64 a, .int .i64 b] 39 := ((Blk.mk_ _ hB.symm rfl).al _).al _
  have q2 : Blk (((w.alloc (.cells #[.int .i64 a, .int .i64 b] 39)).alloc (.cells #[.pointer none, .int .i64 0, .int .i64 0, .int .i64 0, .int .i64 0, .int .i64 0, .bool false] 61)).alloc (.cells #[.pointer none, .pointer (some ⟨B + 1, 0, none⟩)] 58)) (B + 1) (CellM.cells ⟨0, 0, 0, 0, 0, false⟩ (.pointer none)) 61 := (Blk.mk_ _ (by simp [hB]) rfl).al _
  have q3 : Blk (((w.alloc (.cells #[.int .i64 a, .int .i64 b] 39)).alloc (.cells #[.pointer none, .int .i64 0, .int .i64 0, .int .i64 0, .int .i64 0, .int .i64 0, .bool false] 61)).alloc (.cells #[.pointer none, .pointer (some ⟨B + 1, 0, none⟩)] 58)) (B + 1 + 1) [.pointer none, .pointer (some ⟨B + 1, 0, none⟩)] 58 := Blk.mk_ _ (by simp [hB]) rfl
  have bb : Below B w (((w.alloc (.cells #[.int .i64 a, .int .i64 b] 39)).alloc (.cells #[.pointer none, .int .i64 0, .int .i64 0, .int .i64 0, .int .i64 0, .int .i64 0, .bool false] 61)).alloc (.cells #[.pointer none, .pointer (some ⟨B + 1, 0, none⟩)] 58)) := bw_al (bw_al (bw_al (Below.refl _ _) (by omega) _) (by simp; omega) _) (by simp; omega) _
  generalize (((w.alloc (.cells #[.int .i64 a, .int .i64 b] 39)).alloc (.cells #[.pointer none, .int .i64 0, .int .i64 0, .int .i64 0, .int .i64 0, .int .i64 0, .bool false] 61)).alloc (.cells #[.pointer none, .pointer (some ⟨B + 1, 0, none⟩)] 58)) = w2 at *
  have m3 := q3.lt
  have k0 : ∀ w', Below w2.heap.size w2 w' → w'.cell? ⟨B, 0, none⟩ = some (.int .i64 a) := fun w' h => (q1.stay h).at_ 0 rfl
  have k1 : ∀ w', Below w2.heap.size w2 w' → w'.cell? ⟨B, 1, none⟩ = some (.int .i64 b) := fun w' h => (q1.stay h).at_ 1 rfl
  have k2 : ∀ w', Below w2.heap.size w2 w' → w'.cell? ⟨B + 1 + 1, 0, none⟩ = some (.pointer none) := fun w' h => (q3.stay h).at_ 0 rfl
  have k3 : ∀ w', Below w2.heap.size w2 w' → w'.cell? ⟨B + 1 + 1, 1, none⟩ = some (.pointer (some ⟨B + 1, 0, none⟩)) := fun w' h => (q3.stay h).at_ 1 rfl
  have k4 : ∀ w', Below w2.heap.size w2 w' → Blk w' (B + 1) (CellM.cells ⟨0, 0, 0, 0, 0, false⟩ (.pointer none)) 61 := fun w' h => q2.stay h
  clear q1 q2 q3
  go_upto_region 3 with fail
  go_loopw [4] (fun i wi => ∃ k : Nat, k ≤ 2 ∧ i = .int .i64 k ∧ Below w2.heap.size w2 wi) (fun i _ => 2 - (intOf i).toNat)
  case atStart => exact ⟨0, by omega, rfl, Below.refl _ _⟩
  case round =>
    obtain ⟨k, hk, rfl, s1⟩ := hrel
    match k, hk with
    | 0, _ =>
      go_upto_region 6 with (go_at_call 37; refine (birth_nil _).mono ?_; rintro ee w9 ⟨rfl, hw9⟩; subst hw9)
      have s2 := bw_d1 s1
      refine region_plan ⟨[0, 1, 3, 7, 15, 31, 63, 127, 127, 511, 1023, 127, 4095, 8191, 16383, 32767, 65535, 65535, 262143, 524287, 1048575, 2097151, 4194303, 8388607, 16777215, 16777215, 67108863, 134217727, 268435455, 16777215, 1073741823, 2147483647], [12, 20, 28], [0, 0, 0, 0, 0, 0, 0, 0, 0, 0, 0, 0, 0, 1, 1, 1, 1, 1, 1, 1, 1, 2, 2, 2, 2, 2, 2, 2, 2, 2, 3, 3]⟩
        [⟨[0, 1, 2, 3, 4, 5, 6, 7, 8, 9, 10, 11], [1, 4, 9, 10, 11], some 12⟩, ⟨[13, 14, 15, 16, 17, 18, 19], [13, 18, 19], some 20⟩, ⟨[21, 22, 23, 24, 25, 26, 27, 29], [21, 26, 27, 29], some 28⟩, ⟨[30, 31], [29, 30], none⟩] 69 (by kernel_rfl) (by kernel_rfl) (by kernel_rfl) (by kernel_rfl) rfl ?_
      simp only [SeqGo, opsAt_cons, opsAt_nil, List.getElem?_cons, Option.toList_some, List.singleton_append, ↓reduceIte, Nat.reduceEqDiff, Nat.reduceSub]
      go_wp2_with fail
      iterate 4 (
        try (first | refine And.intro (a := True) trivial ?_ | refine And.intro (show Sames _ _ _ _ _ from by (simp only [Sames, Same]; go_simp; try simp [undef])) ?_)
        try go_wp2_with (first
          | (go_at_call 38; refine (raise_nil _ _ _).mono ?_; rintro ee w9 ⟨rfl, hbl⟩; have hbl9 : Below w2.heap.size w2 w9 := bw_next (by assumption) hbl; clear hbl)
          | (go_at_call 39; refine (life_nil _).mono ?_; rintro ee w9 ⟨rfl, hw9⟩; subst hw9)
          | (go_at_call 40; refine (pin_nil _).mono ?_; rintro ee w9 ⟨rfl, hbl⟩; have hbl9 : Below w2.heap.size w2 w9 := bw_next (by assumption) hbl; clear hbl))
        )
      go_wp2_with fail
      exact ⟨⟨1, by omega, rfl, hbl9⟩, by simp [intOf]⟩
    | 1, _ =>
      go_upto_region 6 with (go_at_call 37; refine (birth_unmade _ _ _ _ (k4 _ (by assumption)) rfl).mono ?_; rintro ee w9 ⟨rfl, hw9⟩; subst hw9)
      have s2 := bw_d1 s1
      refine region_plan ⟨[0, 1, 3, 7, 15, 31, 63, 127, 127, 511, 1023, 127, 4095, 8191, 16383, 32767, 65535, 65535, 262143, 524287, 1048575, 2097151, 4194303, 8388607, 16777215, 16777215, 67108863, 134217727, 268435455, 16777215, 1073741823, 2147483647], [12, 20, 28], [0, 0, 0, 0, 0, 0, 0, 0, 0, 0, 0, 0, 0, 1, 1, 1, 1, 1, 1, 1, 1, 2, 2, 2, 2, 2, 2, 2, 2, 2, 3, 3]⟩
        [⟨[0, 1, 2, 3, 4, 5, 6, 7, 8, 9, 10, 11], [1, 4, 9, 10, 11], some 12⟩, ⟨[13, 14, 15, 16, 17, 18, 19], [13, 18, 19], some 20⟩, ⟨[21, 22, 23, 24, 25, 26, 27, 29], [21, 26, 27, 29], some 28⟩, ⟨[30, 31], [29, 30], none⟩] 69 (by kernel_rfl) (by kernel_rfl) (by kernel_rfl) (by kernel_rfl) rfl ?_
      simp only [SeqGo, opsAt_cons, opsAt_nil, List.getElem?_cons, Option.toList_some, List.singleton_append, ↓reduceIte, Nat.reduceEqDiff, Nat.reduceSub]
      go_wp2_with fail
      iterate 4 (
        try (first | refine And.intro (a := True) trivial ?_ | refine And.intro (show Sames _ _ _ _ _ from by (simp only [Sames, Same]; go_simp; try simp [undef])) ?_)
        try go_wp2_with (first
          | (go_at_call 38; refine (raise_unmade _ _ _ _ _ _ (k4 _ (by assumption)) rfl).mono ?_; rintro ee w9 ⟨rfl, hbl⟩; have hbl9 : Below w2.heap.size w2 w9 := bw_next (by assumption) hbl; clear hbl)
          | (go_at_call 39; refine (life_any _ _ _ _ (k4 _ (by assumption))).mono ?_; rintro ee w9 ⟨rfl, hw9⟩; subst hw9)
          | (go_at_call 40; refine (pin_any _ _ _ _ (k4 _ (by assumption))).mono ?_; rintro ee w9 ⟨rfl, hbl⟩; have hbl9 : Below w2.heap.size w2 w9 := bw_next (by assumption) hbl; clear hbl))
        )
      go_wp2_with fail
      exact ⟨⟨2, by omega, rfl, hbl9⟩, by simp [intOf]⟩
    | 2, _ =>
      go_wp2_with (first
        | (go_at_call 41; refine (cellnew_any _ _ _ _ _ _ _ _ _ (.inl rfl)).mono ?_; rintro ee w3 ⟨g, rfl, c1, c2, c3⟩; have h3 : Below B w w3 := bw_then (bw_then bb s1 (by omega)) c3 (by have := s1.size; omega); have hg3 := c2.lt)
        | (go_at_call 37; refine (birth_down _ _ _ c2 rfl (show (0 : Int) < bnd 1 by decide)).mono ?_; rintro ee w9 ⟨rfl, hb9⟩; have h9 : Below B w w9 := bw_then h3 hb9 (by have := s1.size; omega))
        | (go_at_call 30; refine (awake10_any _).mono ?_; rintro e9 w9 ⟨rfl, hbl⟩))
      all_goals (go_ret; exact ⟨rfl, by rw [hB]; exact bw_then h9 hbl (by have := hb9.size; have := s1.size; omega)⟩)

set_option maxRecDepth 100000 in
theorem contract (H : Type) (enc : TypeId × Value → H) (W : World) (base : Nat) (args : Array Value) (ds gs : List (DataW H)) (before : List MemPlace)
    (hval : ∀ (j : Nat) t v, Try.f8.params[j]? = some t → args[j]? = some v → Value.okWide Try.prog W .any base t v)
    (hW : DataW.Whole enc Try.prog Try.f8.params.toList Rows.cellNobodySpec.vars false W args.toList ds gs before) :
    Calls Try.prog 8 args W fun e W' => ∃ v, e = .returned v ∧ Rows.cellNobodySpec.post enc Try.prog Try.f8 false true false false W args v W' := by
  have hW' := hW
  obtain ⟨p, q, hA0, hV, rfl, hfz, hnd⟩ := hW
  have hA : DataW.TrodAll enc Try.prog W 0 (fun _ => true) true Try.f8.params.toList args.toList ds p := hA0
  rw [Try.params8] at hA hval
  obtain ⟨v0, vs0, d0, ds0, p0, q0, hargs0, rfl, rfl, h0, r0⟩ := trodAll_cons hA
  obtain ⟨e9, e8, e7⟩ := trodAll_nil r0
  subst e9 e8 e7
  obtain rfl : args = #[v0] := by cases args; simp_all
  obtain ⟨rfl, rfl⟩ := trodVars_none hV
  have hv0 := hval 0 _ v0 rfl rfl
  clear hA0
  obtain ⟨fuel0, hf0⟩ := h0
  obtain ⟨a0, a1, _, _, ha⟩ := pin_of_trod hf0
  obtain ⟨x0, rfl⟩ : ∃ cs, v0 = .agg cs := by simp only [Value.okWide] at hv0; obtain ⟨cs, h, _⟩ := hv0; exact ⟨cs, h⟩
  obtain rfl : x0 = #[.int .i64 a0, .int .i64 a1] := by apply Array.toList_inj.1; simpa [Value.cells] using ha
  refine (walk a0 a1 W).mono fun e W' ⟨he, hb⟩ => ⟨_, he, ?_⟩
  exact law_post Try.laidOut (by kernel_rfl) (by kernel_rfl) Try.underlying4 rfl rfl rfl rfl hW' hb

set_option maxRecDepth 100000 in
theorem lifted (os : Os) (started : os.Started) (H : Type) (enc : TypeId × Value → H) (F : Stop.Interp) :
    ReturnsInHanded {} Try.checked os 8 .any ((OpenSpec.ofChange Rows.cellNobodySpec).preRow enc Try.prog Try.f8 Rows.cellNobodyRow.domain false Rows.cellNobodyRow.laid) (((OpenSpec.ofChange Rows.cellNobodySpec).at F).post enc Try.prog Try.f8 false true false false) := by
  obtain ⟨places, hx⟩ : ∃ places, DataW.whole enc Try.prog ((World.holding Try.prog os ⟨#[], #[], []⟩).forCall (fun _ _ => 0) ⟨#[], #[.agg #[.int .i64 0, .int .i64 0]], []⟩).memory Try.f8.params.toList Rows.cellNobodySpec.vars false #[.agg #[.int .i64 0, .int .i64 0]].toList 8 = some ([.agg [.lit (.int .i64 0), .lit (.int .i64 0)]], [], places) := ⟨[], by kernel_rfl⟩
  refine returnsInHanded_of_row (C := Try.checked) (s := OpenSpec.ofChange Rows.cellNobodySpec) Try.own started (by kernel_rfl) Try.func8
    (witness_row_at (enc := enc) (C := Try.checked) false (World.holding Try.prog os ⟨#[], #[], []⟩) #[.agg #[.int .i64 0, .int .i64 0]] rfl (by kernel_rfl) (by kernel_rfl) (by kernel_rfl)
      (OpenSpec.preRow_of_cond 8 hx (by kernel_rfl) (fun k hk => by cases hk) (by kernel_rfl) (laid_none _ _))) ?_
  intro W base args ds gs before hval hW _ _ _ _ _ _
  exact contract H enc W base args ds gs before hval hW

theorem proved : Rows.CellNobodySaid :=
  OpenClaim.holds_of_cond 8 Try.f8 rfl rfl rfl rfl rfl rfl rfl ⟨rfl, rfl, rfl, rfl, rfl⟩ rfl rfl rfl rfl rfl (by kernel_rfl) Try.func8 (by kernel_rfl)
    (of_decide_eq_true (by kernel_rfl)) (by unfold Func.isWrapper; first | (rw [if_pos (by decide +kernel)]; kernel_rfl) | (rw [if_neg (by decide +kernel)]; exact ⟨rfl, rfl⟩))
    (fun os started H enc _ F => by rw [OpenClaim.pre_eq_preRow]; exact lifted os started H enc F)
end Go.Proofs.Ytlgcnnhlbkidmaa.lawCellNobody
