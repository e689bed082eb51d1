/-
  The statement CellRises: whatever is asked, the life and the pin never go back, and stay within their bounds; with an error they stay. No condition.
-/
import Derived.Test.YtlgcnnhlbkidmaaRises
import Derived.Test.YtlgcnnhlbkidmaaArgsC
import Derived.Test.YtlgcnnhlbkidmaaField
namespace Go.Proofs.Ytlgcnnhlbkidmaa.lawCellRises
open Go.ChangeShapes Go.WideShapes Go.ChangeAt Go.RowKit

def ActOK (cs : List Value) : Prop := ∃ k a b m : Int, 0 ≤ k ∧ k ≤ 255 ∧ In64 a ∧ In64 b ∧ In64 m ∧ cs = [.int .u8 k, .int .i64 a, .int .i64 b, .int .i64 m]

set_option maxRecDepth 100000 in
set_option maxHeartbeats 8000000 in
theorem walk (b0 b1 b2 b3 b4 b5 b6 : Int) (lv : Value) (n : Nat) (f : Nat → List Value) (w : World) (hEl : Els w lv n 4 f) (hact : ∀ i, i < n → ActOK (f i)) :
    Calls Try.prog 10 #[.agg #[.int .i64 b0, .int .i64 b1, .int .i64 b2, .int .i64 b3, .int .i64 b4, .int .i64 b5, .int .i64 b6], lv] w fun e w' => Holds e w w' := by
  obtain ⟨B, hB⟩ : ∃ B, w.heap.size = B := ⟨_, rfl⟩
  have hlen := hEl.len
  have hEl0 := hEl
  obtain ⟨A, cap, rfl, hc1, hc2, _⟩ := hEl0
  go_enter Try.func10, Try.ntmps10
  by_cases h60 : 60 < (n : Int)
  · go_wp2_with (go_at_call 30; refine (awake10_any _).mono ?_; rintro e9 w9 ⟨rfl, hbl⟩)
    all_goals go_ret
    exact ⟨rfl, bw_then (bw_al (Below.refl _ _) (Nat.le_refl _) _) hbl (by simp)⟩
  have n60 : n ≤ 60 := by omega
  go_upto_region 3 with fail
  have a0 : Blk (w.alloc (.cells #[.int .i64 b0, .int .i64 b1, .int .i64 b2, .int .i64 b3, .int .i64 b4, .int .i64 b5, .int .i64 b6] 70)) B [.int .i64 b0, .int .i64 b1, .int .i64 b2, .int .i64 b3, .int .i64 b4, .int .i64 b5, .int .i64 b6] 70 := Blk.mk_ _ hB.symm rfl
  have a1 : Below B w (w.alloc (.cells #[.int .i64 b0, .int .i64 b1, .int .i64 b2, .int .i64 b3, .int .i64 b4, .int .i64 b5, .int .i64 b6] 70)) := bw_al (Below.refl _ _) (by omega) _
  generalize (w.alloc (.cells #[.int .i64 b0, .int .i64 b1, .int .i64 b2, .int .i64 b3, .int .i64 b4, .int .i64 b5, .int .i64 b6] 70)) = w1 at *
  have l1 := a0.lt
  have t0 := a0.at_ 0 rfl
  obtain ⟨gp, hgp⟩ : ∃ gp, w1.heap.size = gp := ⟨_, rfl⟩
  go_upto_region 5 with (first
    | (go_at_call 42; refine (plug_any _).mono ?_; rintro e w2 ⟨rfl, a2, a3, a4⟩; rw [hgp] at a2 a3 a4 ⊢; have u0 := a0.keep a3 (by omega); have y0 := u0.at_ 0 rfl; have y1 := u0.at_ 1 rfl; have y2 := u0.at_ 2 rfl; have y3 := u0.at_ 3 rfl; have y4 := u0.at_ 4 rfl; have y5 := u0.at_ 5 rfl; have y6 := u0.at_ 6 rfl)
    | (go_at_call 41; refine (cellnew_any _ _ _ _ _ _ _ _ _ (.inr ⟨_, rfl⟩)).mono ?_; rintro e w3 ⟨g, rfl, a5, a6, a7⟩))
  have hgp1 : gp < g := by omega
  have bw3 : Below B w w3 := bw_then (bw_then a1 (by rw [hgp]; exact a3) (by omega)) a7 (by omega)
  have inv0 : RInv B w w3 gp g b0 b1 b2 b3 b4 b5 b6 ⟨0, 0, 0, bnd b4, bnd b2, true⟩ Pow.fresh :=
    ⟨bw3, u0.stay a7, a2.stay a7, a6, ⟨by decide, by decide⟩, rfl, rfl, rfl, rfl, Int.le_refl _, bnd_lo _, bnd_lo _, Int.le_refl _, by omega, by omega⟩
  have hEl1 := hEl
  have hfa : ∀ (x y : Value) (w : World), (Instr.field 39 (.agg #[x, y]) 0).run Try.prog w = .ok x w := fun x y w => run_field1 Try.underlying39 rfl Try.underlying3 rfl rfl
  have hfb : ∀ (x y : Value) (w : World), (Instr.field 39 (.agg #[x, y]) 1).run Try.prog w = .ok y w := fun x y w => run_field1 Try.underlying39 rfl Try.underlying3 rfl rfl
  clear a0 a1 a2 a3 a4 a5 a6 a7 u0 y0 y1 y2 y3 y4 y5 y6 t0 bw3
  go_upto_region 6 with fail
  go_loopw [7] (fun i wi => ∃ (k : Nat) (c : CellM) (p : Pow), k ≤ n ∧ i = .int .i64 k ∧ RInv B w wi gp g b0 b1 b2 b3 b4 b5 b6 c p) (fun i _ => n - (intOf i).toNat)
  case atStart => exact ⟨0, _, _, Nat.zero_le _, rfl, inv0⟩
  case round =>
    obtain ⟨k, c, p, hk, rfl, inv⟩ := hrel
    clear inv0
    by_cases hlt : k < n
    · obtain ⟨kd, a, b, m, hkd0, hkd1, ha, hb, hm, hf⟩ := hact k hlt
      obtain ⟨A', cap', hv, _, _, hall⟩ := hEl1
      obtain ⟨bb, oo, hA', hblt, hcell⟩ := hall (by omega)
      obtain rfl : A = some ⟨bb, oo, none⟩ := by cases hv; exact hA'
      have e := (hcell k hlt).2
      rw [hf] at e
      have hbB : bb < B := by omega
      go_upto_region 9 with (first
        | (go_at_call 39; refine (life_any c _ g _ inv.bC).mono ?_; rintro ee w9 ⟨rfl, hw9⟩; subst hw9)
        | (go_at_call 40; refine (pin_any c _ g _ inv.bC).mono ?_; rintro ee w9 ⟨rfl, hbl⟩; have inv1 := inv.stay hbl))
      obtain ⟨gn, hgn⟩ : ∃ gn, w9.heap.size = gn := ⟨_, rfl⟩
      have bn := Blk.mk_ w9 (t := 39) (arr := #[.int .i64 c.pl, .int .i64 c.pn]) hgn.symm rfl
      have inv2 := inv1.stay (bw_al (Below.refl _ w9) (Nat.le_refl _) (.cells #[.int .i64 c.pl, .int .i64 c.pn] 39))
      have l9 := inv1.bB.lt
      have lg := inv1.bC.lt
      have lp := inv1.bP.lt
      rw [hgn] at l9 lg lp
      generalize (w9.alloc (.cells #[.int .i64 c.pl, .int .i64 c.pn] 39)) = w4 at *
      clear inv inv1 hbl
      have e0 : w4.cell? ⟨bb, oo + k * 4, none⟩ = some (.int .u8 kd) := (inv2.bl.cell (p := ⟨bb, oo + k * 4, none⟩) hbB).trans (e 0 (by omega))
      have e1 : w4.cell? ⟨bb, oo + k * 4 + 1, none⟩ = some (.int .i64 a) := (inv2.bl.cell (p := ⟨bb, oo + k * 4 + 1, none⟩) hbB).trans (e 1 (by omega))
      have e2 : w4.cell? ⟨bb, oo + k * 4 + 2, none⟩ = some (.int .i64 b) := (inv2.bl.cell (p := ⟨bb, oo + k * 4 + 2, none⟩) hbB).trans (e 2 (by omega))
      have e3 : w4.cell? ⟨bb, oo + k * 4 + 3, none⟩ = some (.int .i64 m) := (inv2.bl.cell (p := ⟨bb, oo + k * 4 + 3, none⟩) hbB).trans (e 3 (by omega))
      clear e hcell hall hf
      try clear hv
      obtain ⟨kr, hkr⟩ : ∃ kr, kd % 5 = kr := ⟨_, rfl⟩
      obtain ⟨e, he⟩ : ∃ e, p.act.2 = e := ⟨_, rfl⟩
      have hne := inv2.ne
      have hfar := inv2.far
      have hml : c.ml ≤ 1099511627776 := by rw [inv2.hml]; exact bnd_hi _
      by_cases h0 : kr = 0
      · subst h0
        go_upto_region 18 with (go_at_call 37; refine (birth_any c g gp p _ inv2.bC inv2.hmade inv2.bP inv2.ok (by omega) inv2.life0 hml).mono ?_; rintro ee wn ⟨rfl, f1, f2, f3⟩; rw [he] at f1)
        obtain ⟨r1, r2, r3, r4, r5⟩ := c.birth_rises e
        have bnn := bn.turns f3 (by omega)
        have invn := inv2.next f1 f2 f3 (p.actIf_keeps _ inv2.ok) (c.birth_keeps e inv2.life0) (by rw [(c.birth_keeps e inv2.life0).2.1]; exact r5 inv2.life1) (by rw [(c.birth_keeps e inv2.life0).2.2.1, r3]; exact inv2.pn1) (by rw [r2]; have := inv2.pl1; omega)
        have r6 : lessP (c.birth e).1.pl (c.birth e).1.pn c.pl c.pn = false := by rw [r2, r3]; simp [lessP]
        generalize (c.birth e).2.2 = er at *
        generalize (c.birth e).1 = c' at *
        generalize p.actIf c.asksB = p' at *
        clear f1 f2 f3 r2 r3 r5 inv2 bn e0 e1 e2 e3 he hml
        by_cases hz : er = 0
        · subst hz
          clear r4
          have v1 : c'.life ≤ bnd b4 := by have := invn.life1; rw [invn.hml] at this; exact this
          have v2 : c'.pn ≤ bnd b2 := by have := invn.pn1; rw [invn.hmp] at this; exact this
          have v3 : c'.pl ≤ c'.life := invn.pl1
          have s1 : Below wn.heap.size wn wn.drew := bw_d1 (Below.refl _ _)
          have z0 : ∀ w', Below wn.heap.size wn w' → w'.cell? ⟨gn, 0, none⟩ = some (.int .i64 c.pl) := fun w' h => (bnn.stay h).at_ 0 rfl
          have z1 : ∀ w', Below wn.heap.size wn w' → w'.cell? ⟨gn, 1, none⟩ = some (.int .i64 c.pn) := fun w' h => (bnn.stay h).at_ 1 rfl
          have z2 : ∀ w', Below wn.heap.size wn w' → w'.cell? ⟨B, 2, none⟩ = some (.int .i64 b2) := fun w' h => (invn.bB.stay h).at_ 2 rfl
          have z4 : ∀ w', Below wn.heap.size wn w' → w'.cell? ⟨B, 4, none⟩ = some (.int .i64 b4) := fun w' h => (invn.bB.stay h).at_ 4 rfl
          refine region_plan ⟨[0, 1, 0, 7, 15, 31, 63, 31, 255, 511, 1023, 2047, 4095, 8191, 16383, 32767, 16383, 131071, 262143, 524287, 1048575, 524287, 4194303, 8388607, 16777215, 33554431], [1, 6, 8, 15, 20], [0, 0, 0, 1, 1, 1, 1, 1, 2, 3, 3, 3, 3, 3, 3, 3, 3, 4, 4, 4, 4, 4, 5, 5, 5, 5]⟩
            [⟨[0, 2], [], some 1⟩, ⟨[3, 4, 5, 7], [3, 7], some 6⟩, ⟨[], [7], some 8⟩, ⟨[9, 10, 11, 12, 13, 14, 16], [12], some 15⟩, ⟨[17, 18, 19, 21], [17, 21], some 20⟩, ⟨[22, 23, 24, 25], [21, 22], none⟩] 112 (by kernel_rfl) (by kernel_rfl) (by kernel_rfl) (by kernel_rfl) rfl ?_
          simp only [SeqGo, opsAt_cons, opsAt_nil, List.getElem?_cons, Option.toList_some, List.singleton_append, ↓reduceIte, Nat.reduceEqDiff, Nat.reduceSub]
          go_wp2_with fail
          iterate 6 (
            try (first | refine And.intro (a := True) trivial ?_ | refine And.intro (show Sames _ _ _ _ _ from by (simp only [Sames, Same]; go_simp; try simp [undef])) ?_)
            try go_wp2_with (first
                      | (go_at_call 39; refine (life_any c' _ g _ (invn.bC.stay (by assumption))).mono ?_; rintro ee w9 ⟨rfl, hw9⟩; subst hw9)
                      | (go_at_call 40; refine (pin_any c' _ g _ (invn.bC.stay (by assumption))).mono ?_; rintro ee w9 ⟨rfl, hbl⟩; have hbl9 : Below wn.heap.size wn w9 := bw_next (by assumption) hbl; clear hbl)
                      | (go_at_call 28; refine (less_any _ _ _ _ _).mono ?_; rintro ee w9 ⟨rfl, hbl⟩; have hbl9 : Below wn.heap.size wn w9 := bw_next (by assumption) hbl; clear hbl)
                      | (go_at_call 49; refine (bound_any _ _).mono ?_; rintro ee w9 ⟨rfl, hw9⟩; subst hw9) | (refine And.intro (rfl : Exit.normal = Exit.normal) (wp_field1 39 (.tmp 96) 1 rfl (by first | rfl | go_simp) rfl Try.underlying39 rfl Try.underlying3 rfl rfl ?_)) | (refine And.intro (rfl : Exit.normal = Exit.normal) (wp_field1 39 (.tmp 105) 0 rfl (by first | rfl | go_simp) rfl Try.underlying39 rfl Try.underlying3 rfl rfl ?_)))
            )
          go_upto_region 20 with fail
          have s2 := bw_d1 hbl9
          refine region_plan ⟨[0, 1, 0, 4, 15, 31, 63, 127, 255, 511, 127, 1151, 3583, 8191, 16383, 32767, 65535, 131071, 262143, 65535, 786431, 2097151, 4194303], [1, 4, 8, 12, 17, 20], [0, 0, 0, 0, 1, 2, 2, 2, 2, 3, 2, 2, 3, 4, 4, 4, 4, 4, 5, 4, 5, 6, 6]⟩
            [⟨[0, 2, 3], [2, 3], some 1⟩, ⟨[], [2, 3], some 4⟩, ⟨[5, 6, 7, 10, 11], [5, 10, 11], some 8⟩, ⟨[9], [9, 10, 11], some 12⟩, ⟨[13, 14, 15, 16, 19], [9, 13], some 17⟩, ⟨[18], [18], some 20⟩, ⟨[21, 22], [18, 21], none⟩] 112 (by kernel_rfl) (by kernel_rfl) (by kernel_rfl) (by kernel_rfl) rfl ?_
          simp only [SeqGo, opsAt_cons, opsAt_nil, List.getElem?_cons, Option.toList_some, List.singleton_append, ↓reduceIte, Nat.reduceEqDiff, Nat.reduceSub]
          go_wp2_with fail
          iterate 7 (
            try (first | refine And.intro (a := True) trivial ?_ | refine And.intro (show Sames _ _ _ _ _ from by (simp only [Sames, Same]; go_simp; try simp [undef])) ?_)
            try go_wp2_with (first
                      | (go_at_call 39; refine (life_any c' _ g _ (invn.bC.stay (by assumption))).mono ?_; rintro ee w9 ⟨rfl, hw9⟩; subst hw9)
                      | (go_at_call 40; refine (pin_any c' _ g _ (invn.bC.stay (by assumption))).mono ?_; rintro ee w9 ⟨rfl, hbl⟩; have hbl9 : Below wn.heap.size wn w9 := bw_next (by assumption) hbl; clear hbl)
                      | (go_at_call 28; refine (less_any _ _ _ _ _).mono ?_; rintro ee w9 ⟨rfl, hbl⟩; have hbl9 : Below wn.heap.size wn w9 := bw_next (by assumption) hbl; clear hbl)
                      | (go_at_call 49; refine (bound_any _ _).mono ?_; rintro ee w9 ⟨rfl, hw9⟩; subst hw9) | (refine And.intro (rfl : Exit.normal = Exit.normal) (wp_field1 39 (.tmp 96) 1 rfl (by first | rfl | go_simp) rfl Try.underlying39 rfl Try.underlying3 rfl rfl ?_)) | (refine And.intro (rfl : Exit.normal = Exit.normal) (wp_field1 39 (.tmp 105) 0 rfl (by first | rfl | go_simp) rfl Try.underlying39 rfl Try.underlying3 rfl rfl ?_)))
            )
          go_wp2_with fail
          exact ⟨⟨k + 1, _, _, by omega, by simp, invn.stay hbl9⟩, by simp [intOf]; omega⟩
        · have hcc := r4.resolve_left hz
          have q1 : c'.life = c.life := by rw [hcc]
          have q2 : c'.pl = c.pl := by rw [hcc]
          have q3 : c'.pn = c.pn := by rw [hcc]
          have r7 : lessP c.pl c.pn c.pl c.pn = false := by simp [lessP]
          clear r4 r1 hcc
          have hz1 : (er == 0) = false := by simpa using hz
          have hz2 : (er != 0) = true := by simpa using hz
          have v1 : c'.life ≤ bnd b4 := by have := invn.life1; rw [invn.hml] at this; exact this
          have v2 : c'.pn ≤ bnd b2 := by have := invn.pn1; rw [invn.hmp] at this; exact this
          have v3 : c'.pl ≤ c'.life := invn.pl1
          have s1 : Below wn.heap.size wn wn.drew := bw_d1 (Below.refl _ _)
          have z0 : ∀ w', Below wn.heap.size wn w' → w'.cell? ⟨gn, 0, none⟩ = some (.int .i64 c.pl) := fun w' h => (bnn.stay h).at_ 0 rfl
          have z1 : ∀ w', Below wn.heap.size wn w' → w'.cell? ⟨gn, 1, none⟩ = some (.int .i64 c.pn) := fun w' h => (bnn.stay h).at_ 1 rfl
          have z2 : ∀ w', Below wn.heap.size wn w' → w'.cell? ⟨B, 2, none⟩ = some (.int .i64 b2) := fun w' h => (invn.bB.stay h).at_ 2 rfl
          have z4 : ∀ w', Below wn.heap.size wn w' → w'.cell? ⟨B, 4, none⟩ = some (.int .i64 b4) := fun w' h => (invn.bB.stay h).at_ 4 rfl
          refine region_plan ⟨[0, 1, 0, 7, 15, 31, 63, 31, 255, 511, 1023, 2047, 4095, 8191, 16383, 32767, 16383, 131071, 262143, 524287, 1048575, 524287, 4194303, 8388607, 16777215, 33554431], [1, 6, 8, 15, 20], [0, 0, 0, 1, 1, 1, 1, 1, 2, 3, 3, 3, 3, 3, 3, 3, 3, 4, 4, 4, 4, 4, 5, 5, 5, 5]⟩
            [⟨[0, 2], [], some 1⟩, ⟨[3, 4, 5, 7], [3, 7], some 6⟩, ⟨[], [7], some 8⟩, ⟨[9, 10, 11, 12, 13, 14, 16], [12], some 15⟩, ⟨[17, 18, 19, 21], [17, 21], some 20⟩, ⟨[22, 23, 24, 25], [21, 22], none⟩] 112 (by kernel_rfl) (by kernel_rfl) (by kernel_rfl) (by kernel_rfl) rfl ?_
          simp only [SeqGo, opsAt_cons, opsAt_nil, List.getElem?_cons, Option.toList_some, List.singleton_append, ↓reduceIte, Nat.reduceEqDiff, Nat.reduceSub]
          go_wp2_with fail
          iterate 6 (
            try (first | refine And.intro (a := True) trivial ?_ | refine And.intro (show Sames _ _ _ _ _ from by (simp only [Sames, Same]; go_simp; try simp [undef])) ?_)
            try go_wp2_with (first
                      | (go_at_call 39; refine (life_any c' _ g _ (invn.bC.stay (by assumption))).mono ?_; rintro ee w9 ⟨rfl, hw9⟩; subst hw9)
                      | (go_at_call 40; refine (pin_any c' _ g _ (invn.bC.stay (by assumption))).mono ?_; rintro ee w9 ⟨rfl, hbl⟩; have hbl9 : Below wn.heap.size wn w9 := bw_next (by assumption) hbl; clear hbl)
                      | (go_at_call 28; refine (less_any _ _ _ _ _).mono ?_; rintro ee w9 ⟨rfl, hbl⟩; have hbl9 : Below wn.heap.size wn w9 := bw_next (by assumption) hbl; clear hbl)
                      | (go_at_call 49; refine (bound_any _ _).mono ?_; rintro ee w9 ⟨rfl, hw9⟩; subst hw9) | (refine And.intro (rfl : Exit.normal = Exit.normal) (wp_field1 39 (.tmp 96) 1 rfl (by first | rfl | go_simp) rfl Try.underlying39 rfl Try.underlying3 rfl rfl ?_)) | (refine And.intro (rfl : Exit.normal = Exit.normal) (wp_field1 39 (.tmp 105) 0 rfl (by first | rfl | go_simp) rfl Try.underlying39 rfl Try.underlying3 rfl rfl ?_)))
            )
          go_upto_region 20 with fail
          have s2 := bw_d1 hbl9
          refine region_plan ⟨[0, 1, 0, 4, 15, 31, 63, 127, 255, 511, 127, 1151, 3583, 8191, 16383, 32767, 65535, 131071, 262143, 65535, 786431, 2097151, 4194303], [1, 4, 8, 12, 17, 20], [0, 0, 0, 0, 1, 2, 2, 2, 2, 3, 2, 2, 3, 4, 4, 4, 4, 4, 5, 4, 5, 6, 6]⟩
            [⟨[0, 2, 3], [2, 3], some 1⟩, ⟨[], [2, 3], some 4⟩, ⟨[5, 6, 7, 10, 11], [5, 10, 11], some 8⟩, ⟨[9], [9, 10, 11], some 12⟩, ⟨[13, 14, 15, 16, 19], [9, 13], some 17⟩, ⟨[18], [18], some 20⟩, ⟨[21, 22], [18, 21], none⟩] 112 (by kernel_rfl) (by kernel_rfl) (by kernel_rfl) (by kernel_rfl) rfl ?_
          simp only [SeqGo, opsAt_cons, opsAt_nil, List.getElem?_cons, Option.toList_some, List.singleton_append, ↓reduceIte, Nat.reduceEqDiff, Nat.reduceSub]
          go_wp2_with fail
          iterate 7 (
            try (first | refine And.intro (a := True) trivial ?_ | refine And.intro (show Sames _ _ _ _ _ from by (simp only [Sames, Same]; go_simp; try simp [undef])) ?_)
            try go_wp2_with (first
                      | (go_at_call 39; refine (life_any c' _ g _ (invn.bC.stay (by assumption))).mono ?_; rintro ee w9 ⟨rfl, hw9⟩; subst hw9)
                      | (go_at_call 40; refine (pin_any c' _ g _ (invn.bC.stay (by assumption))).mono ?_; rintro ee w9 ⟨rfl, hbl⟩; have hbl9 : Below wn.heap.size wn w9 := bw_next (by assumption) hbl; clear hbl)
                      | (go_at_call 28; refine (less_any _ _ _ _ _).mono ?_; rintro ee w9 ⟨rfl, hbl⟩; have hbl9 : Below wn.heap.size wn w9 := bw_next (by assumption) hbl; clear hbl)
                      | (go_at_call 49; refine (bound_any _ _).mono ?_; rintro ee w9 ⟨rfl, hw9⟩; subst hw9) | (refine And.intro (rfl : Exit.normal = Exit.normal) (wp_field1 39 (.tmp 96) 1 rfl (by first | rfl | go_simp) rfl Try.underlying39 rfl Try.underlying3 rfl rfl ?_)) | (refine And.intro (rfl : Exit.normal = Exit.normal) (wp_field1 39 (.tmp 105) 0 rfl (by first | rfl | go_simp) rfl Try.underlying39 rfl Try.underlying3 rfl rfl ?_)))
            )
          go_wp2_with fail
          exact ⟨⟨k + 1, _, _, by omega, by simp, invn.stay hbl9⟩, by simp [intOf]; omega⟩
      by_cases h3 : kr = 3
      · subst h3
        go_upto_region 18 with (go_at_call 45; refine (fuse_any p m gp _ inv2.bP inv2.pmade).mono ?_; rintro ee wn ⟨rfl, f1, f2⟩)
        have bnn := bn.only f2 (by omega)
        have invn := inv2.power f1 f2 ⟨p.fuse_ok m hm.2, inv2.pmade⟩
        obtain ⟨c', hc'⟩ : ∃ c', c = c' := ⟨_, rfl⟩
        have r6 : lessP c'.pl c'.pn c.pl c.pn = false := by rw [hc']; simp [lessP]
        have r1 : c.life ≤ c'.life := by rw [hc']; exact Int.le_refl _
        rw [hc'] at invn
        clear f1 f2 inv2 bn e0 e1 e2 e3 he hml hc'
        have v1 : c'.life ≤ bnd b4 := by have := invn.life1; rw [invn.hml] at this; exact this
        have v2 : c'.pn ≤ bnd b2 := by have := invn.pn1; rw [invn.hmp] at this; exact this
        have v3 : c'.pl ≤ c'.life := invn.pl1
        have s1 : Below wn.heap.size wn wn.drew := bw_d1 (Below.refl _ _)
        have z0 : ∀ w', Below wn.heap.size wn w' → w'.cell? ⟨gn, 0, none⟩ = some (.int .i64 c.pl) := fun w' h => (bnn.stay h).at_ 0 rfl
        have z1 : ∀ w', Below wn.heap.size wn w' → w'.cell? ⟨gn, 1, none⟩ = some (.int .i64 c.pn) := fun w' h => (bnn.stay h).at_ 1 rfl
        have z2 : ∀ w', Below wn.heap.size wn w' → w'.cell? ⟨B, 2, none⟩ = some (.int .i64 b2) := fun w' h => (invn.bB.stay h).at_ 2 rfl
        have z4 : ∀ w', Below wn.heap.size wn w' → w'.cell? ⟨B, 4, none⟩ = some (.int .i64 b4) := fun w' h => (invn.bB.stay h).at_ 4 rfl
        refine region_plan ⟨[0, 1, 0, 7, 15, 31, 63, 31, 255, 511, 1023, 2047, 4095, 8191, 16383, 32767, 16383, 131071, 262143, 524287, 1048575, 524287, 4194303, 8388607, 16777215, 33554431], [1, 6, 8, 15, 20], [0, 0, 0, 1, 1, 1, 1, 1, 2, 3, 3, 3, 3, 3, 3, 3, 3, 4, 4, 4, 4, 4, 5, 5, 5, 5]⟩
          [⟨[0, 2], [], some 1⟩, ⟨[3, 4, 5, 7], [3, 7], some 6⟩, ⟨[], [7], some 8⟩, ⟨[9, 10, 11, 12, 13, 14, 16], [12], some 15⟩, ⟨[17, 18, 19, 21], [17, 21], some 20⟩, ⟨[22, 23, 24, 25], [21, 22], none⟩] 112 (by kernel_rfl) (by kernel_rfl) (by kernel_rfl) (by kernel_rfl) rfl ?_
        simp only [SeqGo, opsAt_cons, opsAt_nil, List.getElem?_cons, Option.toList_some, List.singleton_append, ↓reduceIte, Nat.reduceEqDiff, Nat.reduceSub]
        go_wp2_with fail
        iterate 6 (
          try (first | refine And.intro (a := True) trivial ?_ | refine And.intro (show Sames _ _ _ _ _ from by (simp only [Sames, Same]; go_simp; try simp [undef])) ?_)
          try go_wp2_with (first
                    | (go_at_call 39; refine (life_any c' _ g _ (invn.bC.stay (by assumption))).mono ?_; rintro ee w9 ⟨rfl, hw9⟩; subst hw9)
                    | (go_at_call 40; refine (pin_any c' _ g _ (invn.bC.stay (by assumption))).mono ?_; rintro ee w9 ⟨rfl, hbl⟩; have hbl9 : Below wn.heap.size wn w9 := bw_next (by assumption) hbl; clear hbl)
                    | (go_at_call 28; refine (less_any _ _ _ _ _).mono ?_; rintro ee w9 ⟨rfl, hbl⟩; have hbl9 : Below wn.heap.size wn w9 := bw_next (by assumption) hbl; clear hbl)
                    | (go_at_call 49; refine (bound_any _ _).mono ?_; rintro ee w9 ⟨rfl, hw9⟩; subst hw9) | (refine And.intro (rfl : Exit.normal = Exit.normal) (wp_field1 39 (.tmp 96) 1 rfl (by first | rfl | go_simp) rfl Try.underlying39 rfl Try.underlying3 rfl rfl ?_)) | (refine And.intro (rfl : Exit.normal = Exit.normal) (wp_field1 39 (.tmp 105) 0 rfl (by first | rfl | go_simp) rfl Try.underlying39 rfl Try.underlying3 rfl rfl ?_)))
          )
        go_upto_region 20 with fail
        have s2 := bw_d1 hbl9
        refine region_plan ⟨[0, 1, 0, 4, 15, 31, 63, 127, 255, 511, 127, 1151, 3583, 8191, 16383, 32767, 65535, 131071, 262143, 65535, 786431, 2097151, 4194303], [1, 4, 8, 12, 17, 20], [0, 0, 0, 0, 1, 2, 2, 2, 2, 3, 2, 2, 3, 4, 4, 4, 4, 4, 5, 4, 5, 6, 6]⟩
          [⟨[0, 2, 3], [2, 3], some 1⟩, ⟨[], [2, 3], some 4⟩, ⟨[5, 6, 7, 10, 11], [5, 10, 11], some 8⟩, ⟨[9], [9, 10, 11], some 12⟩, ⟨[13, 14, 15, 16, 19], [9, 13], some 17⟩, ⟨[18], [18], some 20⟩, ⟨[21, 22], [18, 21], none⟩] 112 (by kernel_rfl) (by kernel_rfl) (by kernel_rfl) (by kernel_rfl) rfl ?_
        simp only [SeqGo, opsAt_cons, opsAt_nil, List.getElem?_cons, Option.toList_some, List.singleton_append, ↓reduceIte, Nat.reduceEqDiff, Nat.reduceSub]
        go_wp2_with fail
        iterate 7 (
          try (first | refine And.intro (a := True) trivial ?_ | refine And.intro (show Sames _ _ _ _ _ from by (simp only [Sames, Same]; go_simp; try simp [undef])) ?_)
          try go_wp2_with (first
                    | (go_at_call 39; refine (life_any c' _ g _ (invn.bC.stay (by assumption))).mono ?_; rintro ee w9 ⟨rfl, hw9⟩; subst hw9)
                    | (go_at_call 40; refine (pin_any c' _ g _ (invn.bC.stay (by assumption))).mono ?_; rintro ee w9 ⟨rfl, hbl⟩; have hbl9 : Below wn.heap.size wn w9 := bw_next (by assumption) hbl; clear hbl)
                    | (go_at_call 28; refine (less_any _ _ _ _ _).mono ?_; rintro ee w9 ⟨rfl, hbl⟩; have hbl9 : Below wn.heap.size wn w9 := bw_next (by assumption) hbl; clear hbl)
                    | (go_at_call 49; refine (bound_any _ _).mono ?_; rintro ee w9 ⟨rfl, hw9⟩; subst hw9) | (refine And.intro (rfl : Exit.normal = Exit.normal) (wp_field1 39 (.tmp 96) 1 rfl (by first | rfl | go_simp) rfl Try.underlying39 rfl Try.underlying3 rfl rfl ?_)) | (refine And.intro (rfl : Exit.normal = Exit.normal) (wp_field1 39 (.tmp 105) 0 rfl (by first | rfl | go_simp) rfl Try.underlying39 rfl Try.underlying3 rfl rfl ?_)))
          )
        go_wp2_with fail
        exact ⟨⟨k + 1, _, _, by omega, by simp, invn.stay hbl9⟩, by simp [intOf]; omega⟩
      by_cases h4 : kr = 4
      · subst h4
        go_upto_region 18 with (go_at_call 47; refine (mend_any p gp _ inv2.bP inv2.pmade).mono ?_; rintro ee wn ⟨rfl, f1, f2⟩)
        have bnn := bn.only f2 (by omega)
        have invn := inv2.power f1 f2 ⟨⟨by decide, by decide⟩, rfl⟩
        obtain ⟨c', hc'⟩ : ∃ c', c = c' := ⟨_, rfl⟩
        have r6 : lessP c'.pl c'.pn c.pl c.pn = false := by rw [hc']; simp [lessP]
        have r1 : c.life ≤ c'.life := by rw [hc']; exact Int.le_refl _
        rw [hc'] at invn
        clear f1 f2 inv2 bn e0 e1 e2 e3 he hml hc'
        have v1 : c'.life ≤ bnd b4 := by have := invn.life1; rw [invn.hml] at this; exact this
        have v2 : c'.pn ≤ bnd b2 := by have := invn.pn1; rw [invn.hmp] at this; exact this
        have v3 : c'.pl ≤ c'.life := invn.pl1
        have s1 : Below wn.heap.size wn wn.drew := bw_d1 (Below.refl _ _)
        have z0 : ∀ w', Below wn.heap.size wn w' → w'.cell? ⟨gn, 0, none⟩ = some (.int .i64 c.pl) := fun w' h => (bnn.stay h).at_ 0 rfl
        have z1 : ∀ w', Below wn.heap.size wn w' → w'.cell? ⟨gn, 1, none⟩ = some (.int .i64 c.pn) := fun w' h => (bnn.stay h).at_ 1 rfl
        have z2 : ∀ w', Below wn.heap.size wn w' → w'.cell? ⟨B, 2, none⟩ = some (.int .i64 b2) := fun w' h => (invn.bB.stay h).at_ 2 rfl
        have z4 : ∀ w', Below wn.heap.size wn w' → w'.cell? ⟨B, 4, none⟩ = some (.int .i64 b4) := fun w' h => (invn.bB.stay h).at_ 4 rfl
        refine region_plan ⟨[0, 1, 0, 7, 15, 31, 63, 31, 255, 511, 1023, 2047, 4095, 8191, 16383, 32767, 16383, 131071, 262143, 524287, 1048575, 524287, 4194303, 8388607, 16777215, 33554431], [1, 6, 8, 15, 20], [0, 0, 0, 1, 1, 1, 1, 1, 2, 3, 3, 3, 3, 3, 3, 3, 3, 4, 4, 4, 4, 4, 5, 5, 5, 5]⟩
          [⟨[0, 2], [], some 1⟩, ⟨[3, 4, 5, 7], [3, 7], some 6⟩, ⟨[], [7], some 8⟩, ⟨[9, 10, 11, 12, 13, 14, 16], [12], some 15⟩, ⟨[17, 18, 19, 21], [17, 21], some 20⟩, ⟨[22, 23, 24, 25], [21, 22], none⟩] 112 (by kernel_rfl) (by kernel_rfl) (by kernel_rfl) (by kernel_rfl) rfl ?_
        simp only [SeqGo, opsAt_cons, opsAt_nil, List.getElem?_cons, Option.toList_some, List.singleton_append, ↓reduceIte, Nat.reduceEqDiff, Nat.reduceSub]
        go_wp2_with fail
        iterate 6 (
          try (first | refine And.intro (a := True) trivial ?_ | refine And.intro (show Sames _ _ _ _ _ from by (simp only [Sames, Same]; go_simp; try simp [undef])) ?_)
          try go_wp2_with (first
                    | (go_at_call 39; refine (life_any c' _ g _ (invn.bC.stay (by assumption))).mono ?_; rintro ee w9 ⟨rfl, hw9⟩; subst hw9)
                    | (go_at_call 40; refine (pin_any c' _ g _ (invn.bC.stay (by assumption))).mono ?_; rintro ee w9 ⟨rfl, hbl⟩; have hbl9 : Below wn.heap.size wn w9 := bw_next (by assumption) hbl; clear hbl)
                    | (go_at_call 28; refine (less_any _ _ _ _ _).mono ?_; rintro ee w9 ⟨rfl, hbl⟩; have hbl9 : Below wn.heap.size wn w9 := bw_next (by assumption) hbl; clear hbl)
                    | (go_at_call 49; refine (bound_any _ _).mono ?_; rintro ee w9 ⟨rfl, hw9⟩; subst hw9) | (refine And.intro (rfl : Exit.normal = Exit.normal) (wp_field1 39 (.tmp 96) 1 rfl (by first | rfl | go_simp) rfl Try.underlying39 rfl Try.underlying3 rfl rfl ?_)) | (refine And.intro (rfl : Exit.normal = Exit.normal) (wp_field1 39 (.tmp 105) 0 rfl (by first | rfl | go_simp) rfl Try.underlying39 rfl Try.underlying3 rfl rfl ?_)))
          )
        go_upto_region 20 with fail
        have s2 := bw_d1 hbl9
        refine region_plan ⟨[0, 1, 0, 4, 15, 31, 63, 127, 255, 511, 127, 1151, 3583, 8191, 16383, 32767, 65535, 131071, 262143, 65535, 786431, 2097151, 4194303], [1, 4, 8, 12, 17, 20], [0, 0, 0, 0, 1, 2, 2, 2, 2, 3, 2, 2, 3, 4, 4, 4, 4, 4, 5, 4, 5, 6, 6]⟩
          [⟨[0, 2, 3], [2, 3], some 1⟩, ⟨[], [2, 3], some 4⟩, ⟨[5, 6, 7, 10, 11], [5, 10, 11], some 8⟩, ⟨[9], [9, 10, 11], some 12⟩, ⟨[13, 14, 15, 16, 19], [9, 13], some 17⟩, ⟨[18], [18], some 20⟩, ⟨[21, 22], [18, 21], none⟩] 112 (by kernel_rfl) (by kernel_rfl) (by kernel_rfl) (by kernel_rfl) rfl ?_
        simp only [SeqGo, opsAt_cons, opsAt_nil, List.getElem?_cons, Option.toList_some, List.singleton_append, ↓reduceIte, Nat.reduceEqDiff, Nat.reduceSub]
        go_wp2_with fail
        iterate 7 (
          try (first | refine And.intro (a := True) trivial ?_ | refine And.intro (show Sames _ _ _ _ _ from by (simp only [Sames, Same]; go_simp; try simp [undef])) ?_)
          try go_wp2_with (first
                    | (go_at_call 39; refine (life_any c' _ g _ (invn.bC.stay (by assumption))).mono ?_; rintro ee w9 ⟨rfl, hw9⟩; subst hw9)
                    | (go_at_call 40; refine (pin_any c' _ g _ (invn.bC.stay (by assumption))).mono ?_; rintro ee w9 ⟨rfl, hbl⟩; have hbl9 : Below wn.heap.size wn w9 := bw_next (by assumption) hbl; clear hbl)
                    | (go_at_call 28; refine (less_any _ _ _ _ _).mono ?_; rintro ee w9 ⟨rfl, hbl⟩; have hbl9 : Below wn.heap.size wn w9 := bw_next (by assumption) hbl; clear hbl)
                    | (go_at_call 49; refine (bound_any _ _).mono ?_; rintro ee w9 ⟨rfl, hw9⟩; subst hw9) | (refine And.intro (rfl : Exit.normal = Exit.normal) (wp_field1 39 (.tmp 96) 1 rfl (by first | rfl | go_simp) rfl Try.underlying39 rfl Try.underlying3 rfl rfl ?_)) | (refine And.intro (rfl : Exit.normal = Exit.normal) (wp_field1 39 (.tmp 105) 0 rfl (by first | rfl | go_simp) rfl Try.underlying39 rfl Try.underlying3 rfl rfl ?_)))
          )
        go_wp2_with fail
        exact ⟨⟨k + 1, _, _, by omega, by simp, invn.stay hbl9⟩, by simp [intOf]; omega⟩
      · go_upto_region 18 with (go_at_call 38; refine (raise_any c a b g gp p _ inv2.bC inv2.hmade inv2.bP inv2.ok (by omega)).mono ?_; rintro ee wn ⟨rfl, f1, f2, f3⟩; rw [he] at f1)
        obtain ⟨r2, r6, r4, r5, r7⟩ := c.raise_rises a b e
        have bnn := bn.turns f3 (by omega)
        have kk := c.raise_keeps a b e inv2.life0
        have invn := inv2.next f1 f2 f3 (p.actIf_keeps _ inv2.ok) kk (by rw [kk.2.1, r2]; exact inv2.life1) (by rw [kk.2.2.1]; exact r5 inv2.pn1) (by rw [r2]; exact r7 inv2.pl1)
        have r1 : c.life ≤ (c.raise a b e).1.life := by rw [r2]; exact Int.le_refl _
        generalize (c.raise a b e).2 = er at *
        generalize (c.raise a b e).1 = c' at *
        generalize p.actIf (c.asksR a b) = p' at *
        clear f1 f2 f3 r2 r5 r7 kk inv2 bn e0 e1 e2 e3 he hml
        by_cases hz : er = 0
        · subst hz
          clear r4
          have v1 : c'.life ≤ bnd b4 := by have := invn.life1; rw [invn.hml] at this; exact this
          have v2 : c'.pn ≤ bnd b2 := by have := invn.pn1; rw [invn.hmp] at this; exact this
          have v3 : c'.pl ≤ c'.life := invn.pl1
          have s1 : Below wn.heap.size wn wn.drew := bw_d1 (Below.refl _ _)
          have z0 : ∀ w', Below wn.heap.size wn w' → w'.cell? ⟨gn, 0, none⟩ = some (.int .i64 c.pl) := fun w' h => (bnn.stay h).at_ 0 rfl
          have z1 : ∀ w', Below wn.heap.size wn w' → w'.cell? ⟨gn, 1, none⟩ = some (.int .i64 c.pn) := fun w' h => (bnn.stay h).at_ 1 rfl
          have z2 : ∀ w', Below wn.heap.size wn w' → w'.cell? ⟨B, 2, none⟩ = some (.int .i64 b2) := fun w' h => (invn.bB.stay h).at_ 2 rfl
          have z4 : ∀ w', Below wn.heap.size wn w' → w'.cell? ⟨B, 4, none⟩ = some (.int .i64 b4) := fun w' h => (invn.bB.stay h).at_ 4 rfl
          refine region_plan ⟨[0, 1, 0, 7, 15, 31, 63, 31, 255, 511, 1023, 2047, 4095, 8191, 16383, 32767, 16383, 131071, 262143, 524287, 1048575, 524287, 4194303, 8388607, 16777215, 33554431], [1, 6, 8, 15, 20], [0, 0, 0, 1, 1, 1, 1, 1, 2, 3, 3, 3, 3, 3, 3, 3, 3, 4, 4, 4, 4, 4, 5, 5, 5, 5]⟩
            [⟨[0, 2], [], some 1⟩, ⟨[3, 4, 5, 7], [3, 7], some 6⟩, ⟨[], [7], some 8⟩, ⟨[9, 10, 11, 12, 13, 14, 16], [12], some 15⟩, ⟨[17, 18, 19, 21], [17, 21], some 20⟩, ⟨[22, 23, 24, 25], [21, 22], none⟩] 112 (by kernel_rfl) (by kernel_rfl) (by kernel_rfl) (by kernel_rfl) rfl ?_
          simp only [SeqGo, opsAt_cons, opsAt_nil, List.getElem?_cons, Option.toList_some, List.singleton_append, ↓reduceIte, Nat.reduceEqDiff, Nat.reduceSub]
          go_wp2_with fail
          iterate 6 (
            try (first | refine And.intro (a := True) trivial ?_ | refine And.intro (show Sames _ _ _ _ _ from by (simp only [Sames, Same]; go_simp; try simp [undef])) ?_)
            try go_wp2_with (first
                      | (go_at_call 39; refine (life_any c' _ g _ (invn.bC.stay (by assumption))).mono ?_; rintro ee w9 ⟨rfl, hw9⟩; subst hw9)
                      | (go_at_call 40; refine (pin_any c' _ g _ (invn.bC.stay (by assumption))).mono ?_; rintro ee w9 ⟨rfl, hbl⟩; have hbl9 : Below wn.heap.size wn w9 := bw_next (by assumption) hbl; clear hbl)
                      | (go_at_call 28; refine (less_any _ _ _ _ _).mono ?_; rintro ee w9 ⟨rfl, hbl⟩; have hbl9 : Below wn.heap.size wn w9 := bw_next (by assumption) hbl; clear hbl)
                      | (go_at_call 49; refine (bound_any _ _).mono ?_; rintro ee w9 ⟨rfl, hw9⟩; subst hw9) | (refine And.intro (rfl : Exit.normal = Exit.normal) (wp_field1 39 (.tmp 96) 1 rfl (by first | rfl | go_simp) rfl Try.underlying39 rfl Try.underlying3 rfl rfl ?_)) | (refine And.intro (rfl : Exit.normal = Exit.normal) (wp_field1 39 (.tmp 105) 0 rfl (by first | rfl | go_simp) rfl Try.underlying39 rfl Try.underlying3 rfl rfl ?_)))
            )
          go_upto_region 20 with fail
          have s2 := bw_d1 hbl9
          refine region_plan ⟨[0, 1, 0, 4, 15, 31, 63, 127, 255, 511, 127, 1151, 3583, 8191, 16383, 32767, 65535, 131071, 262143, 65535, 786431, 2097151, 4194303], [1, 4, 8, 12, 17, 20], [0, 0, 0, 0, 1, 2, 2, 2, 2, 3, 2, 2, 3, 4, 4, 4, 4, 4, 5, 4, 5, 6, 6]⟩
            [⟨[0, 2, 3], [2, 3], some 1⟩, ⟨[], [2, 3], some 4⟩, ⟨[5, 6, 7, 10, 11], [5, 10, 11], some 8⟩, ⟨[9], [9, 10, 11], some 12⟩, ⟨[13, 14, 15, 16, 19], [9, 13], some 17⟩, ⟨[18], [18], some 20⟩, ⟨[21, 22], [18, 21], none⟩] 112 (by kernel_rfl) (by kernel_rfl) (by kernel_rfl) (by kernel_rfl) rfl ?_
          simp only [SeqGo, opsAt_cons, opsAt_nil, List.getElem?_cons, Option.toList_some, List.singleton_append, ↓reduceIte, Nat.reduceEqDiff, Nat.reduceSub]
          go_wp2_with fail
          iterate 7 (
            try (first | refine And.intro (a := True) trivial ?_ | refine And.intro (show Sames _ _ _ _ _ from by (simp only [Sames, Same]; go_simp; try simp [undef])) ?_)
            try go_wp2_with (first
                      | (go_at_call 39; refine (life_any c' _ g _ (invn.bC.stay (by assumption))).mono ?_; rintro ee w9 ⟨rfl, hw9⟩; subst hw9)
                      | (go_at_call 40; refine (pin_any c' _ g _ (invn.bC.stay (by assumption))).mono ?_; rintro ee w9 ⟨rfl, hbl⟩; have hbl9 : Below wn.heap.size wn w9 := bw_next (by assumption) hbl; clear hbl)
                      | (go_at_call 28; refine (less_any _ _ _ _ _).mono ?_; rintro ee w9 ⟨rfl, hbl⟩; have hbl9 : Below wn.heap.size wn w9 := bw_next (by assumption) hbl; clear hbl)
                      | (go_at_call 49; refine (bound_any _ _).mono ?_; rintro ee w9 ⟨rfl, hw9⟩; subst hw9) | (refine And.intro (rfl : Exit.normal = Exit.normal) (wp_field1 39 (.tmp 96) 1 rfl (by first | rfl | go_simp) rfl Try.underlying39 rfl Try.underlying3 rfl rfl ?_)) | (refine And.intro (rfl : Exit.normal = Exit.normal) (wp_field1 39 (.tmp 105) 0 rfl (by first | rfl | go_simp) rfl Try.underlying39 rfl Try.underlying3 rfl rfl ?_)))
            )
          go_wp2_with fail
          exact ⟨⟨k + 1, _, _, by omega, by simp, invn.stay hbl9⟩, by simp [intOf]; omega⟩
        · have hcc := r4.resolve_left hz
          have q1 : c'.life = c.life := by rw [hcc]
          have q2 : c'.pl = c.pl := by rw [hcc]
          have q3 : c'.pn = c.pn := by rw [hcc]
          have r7 : lessP c.pl c.pn c.pl c.pn = false := by simp [lessP]
          clear r4 r1 hcc
          have hz1 : (er == 0) = false := by simpa using hz
          have hz2 : (er != 0) = true := by simpa using hz
          have v1 : c'.life ≤ bnd b4 := by have := invn.life1; rw [invn.hml] at this; exact this
          have v2 : c'.pn ≤ bnd b2 := by have := invn.pn1; rw [invn.hmp] at this; exact this
          have v3 : c'.pl ≤ c'.life := invn.pl1
          have s1 : Below wn.heap.size wn wn.drew := bw_d1 (Below.refl _ _)
          have z0 : ∀ w', Below wn.heap.size wn w' → w'.cell? ⟨gn, 0, none⟩ = some (.int .i64 c.pl) := fun w' h => (bnn.stay h).at_ 0 rfl
          have z1 : ∀ w', Below wn.heap.size wn w' → w'.cell? ⟨gn, 1, none⟩ = some (.int .i64 c.pn) := fun w' h => (bnn.stay h).at_ 1 rfl
          have z2 : ∀ w', Below wn.heap.size wn w' → w'.cell? ⟨B, 2, none⟩ = some (.int .i64 b2) := fun w' h => (invn.bB.stay h).at_ 2 rfl
          have z4 : ∀ w', Below wn.heap.size wn w' → w'.cell? ⟨B, 4, none⟩ = some (.int .i64 b4) := fun w' h => (invn.bB.stay h).at_ 4 rfl
          refine region_plan ⟨[0, 1, 0, 7, 15, 31, 63, 31, 255, 511, 1023, 2047, 4095, 8191, 16383, 32767, 16383, 131071, 262143, 524287, 1048575, 524287, 4194303, 8388607, 16777215, 33554431], [1, 6, 8, 15, 20], [0, 0, 0, 1, 1, 1, 1, 1, 2, 3, 3, 3, 3, 3, 3, 3, 3, 4, 4, 4, 4, 4, 5, 5, 5, 5]⟩
            [⟨[0, 2], [], some 1⟩, ⟨[3, 4, 5, 7], [3, 7], some 6⟩, ⟨[], [7], some 8⟩, ⟨[9, 10, 11, 12, 13, 14, 16], [12], some 15⟩, ⟨[17, 18, 19, 21], [17, 21], some 20⟩, ⟨[22, 23, 24, 25], [21, 22], none⟩] 112 (by kernel_rfl) (by kernel_rfl) (by kernel_rfl) (by kernel_rfl) rfl ?_
          simp only [SeqGo, opsAt_cons, opsAt_nil, List.getElem?_cons, Option.toList_some, List.singleton_append, ↓reduceIte, Nat.reduceEqDiff, Nat.reduceSub]
          go_wp2_with fail
          iterate 6 (
            try (first | refine And.intro (a := True) trivial ?_ | refine And.intro (show Sames _ _ _ _ _ from by (simp only [Sames, Same]; go_simp; try simp [undef])) ?_)
            try go_wp2_with (first
                      | (go_at_call 39; refine (life_any c' _ g _ (invn.bC.stay (by assumption))).mono ?_; rintro ee w9 ⟨rfl, hw9⟩; subst hw9)
                      | (go_at_call 40; refine (pin_any c' _ g _ (invn.bC.stay (by assumption))).mono ?_; rintro ee w9 ⟨rfl, hbl⟩; have hbl9 : Below wn.heap.size wn w9 := bw_next (by assumption) hbl; clear hbl)
                      | (go_at_call 28; refine (less_any _ _ _ _ _).mono ?_; rintro ee w9 ⟨rfl, hbl⟩; have hbl9 : Below wn.heap.size wn w9 := bw_next (by assumption) hbl; clear hbl)
                      | (go_at_call 49; refine (bound_any _ _).mono ?_; rintro ee w9 ⟨rfl, hw9⟩; subst hw9) | (refine And.intro (rfl : Exit.normal = Exit.normal) (wp_field1 39 (.tmp 96) 1 rfl (by first | rfl | go_simp) rfl Try.underlying39 rfl Try.underlying3 rfl rfl ?_)) | (refine And.intro (rfl : Exit.normal = Exit.normal) (wp_field1 39 (.tmp 105) 0 rfl (by first | rfl | go_simp) rfl Try.underlying39 rfl Try.underlying3 rfl rfl ?_)))
            )
          go_upto_region 20 with fail
          have s2 := bw_d1 hbl9
          refine region_plan ⟨[0, 1, 0, 4, 15, 31, 63, 127, 255, 511, 127, 1151, 3583, 8191, 16383, 32767, 65535, 131071, 262143, 65535, 786431, 2097151, 4194303], [1, 4, 8, 12, 17, 20], [0, 0, 0, 0, 1, 2, 2, 2, 2, 3, 2, 2, 3, 4, 4, 4, 4, 4, 5, 4, 5, 6, 6]⟩
            [⟨[0, 2, 3], [2, 3], some 1⟩, ⟨[], [2, 3], some 4⟩, ⟨[5, 6, 7, 10, 11], [5, 10, 11], some 8⟩, ⟨[9], [9, 10, 11], some 12⟩, ⟨[13, 14, 15, 16, 19], [9, 13], some 17⟩, ⟨[18], [18], some 20⟩, ⟨[21, 22], [18, 21], none⟩] 112 (by kernel_rfl) (by kernel_rfl) (by kernel_rfl) (by kernel_rfl) rfl ?_
          simp only [SeqGo, opsAt_cons, opsAt_nil, List.getElem?_cons, Option.toList_some, List.singleton_append, ↓reduceIte, Nat.reduceEqDiff, Nat.reduceSub]
          go_wp2_with fail
          iterate 7 (
            try (first | refine And.intro (a := True) trivial ?_ | refine And.intro (show Sames _ _ _ _ _ from by (simp only [Sames, Same]; go_simp; try simp [undef])) ?_)
            try go_wp2_with (first
                      | (go_at_call 39; refine (life_any c' _ g _ (invn.bC.stay (by assumption))).mono ?_; rintro ee w9 ⟨rfl, hw9⟩; subst hw9)
                      | (go_at_call 40; refine (pin_any c' _ g _ (invn.bC.stay (by assumption))).mono ?_; rintro ee w9 ⟨rfl, hbl⟩; have hbl9 : Below wn.heap.size wn w9 := bw_next (by assumption) hbl; clear hbl)
                      | (go_at_call 28; refine (less_any _ _ _ _ _).mono ?_; rintro ee w9 ⟨rfl, hbl⟩; have hbl9 : Below wn.heap.size wn w9 := bw_next (by assumption) hbl; clear hbl)
                      | (go_at_call 49; refine (bound_any _ _).mono ?_; rintro ee w9 ⟨rfl, hw9⟩; subst hw9) | (refine And.intro (rfl : Exit.normal = Exit.normal) (wp_field1 39 (.tmp 96) 1 rfl (by first | rfl | go_simp) rfl Try.underlying39 rfl Try.underlying3 rfl rfl ?_)) | (refine And.intro (rfl : Exit.normal = Exit.normal) (wp_field1 39 (.tmp 105) 0 rfl (by first | rfl | go_simp) rfl Try.underlying39 rfl Try.underlying3 rfl rfl ?_)))
            )
          go_wp2_with fail
          exact ⟨⟨k + 1, _, _, by omega, by simp, invn.stay hbl9⟩, by simp [intOf]; omega⟩
    · go_wp2_with (go_at_call 30; refine (awake10_any _).mono ?_; rintro e9 w9 ⟨rfl, hbl⟩)
      all_goals go_ret
      exact ⟨rfl, by rw [hB]; exact bw_then inv.bl hbl (by have := inv.bB.lt; omega)⟩

set_option maxRecDepth 100000 in
theorem contract (H : Type) (enc : TypeId × Value → H) (W : World) (base : Nat) (args : Array Value) (ds gs : List (DataW H)) (before : List MemPlace)
    (hval : ∀ (j : Nat) t v, Try.f10.params[j]? = some t → args[j]? = some v → Value.okWide Try.prog W .any base t v)
    (hW : DataW.Whole enc Try.prog Try.f10.params.toList Rows.cellRisesSpec.vars false W args.toList ds gs before) :
    Calls Try.prog 10 args W fun e W' => ∃ v, e = .returned v ∧ Rows.cellRisesSpec.post enc Try.prog Try.f10 false true false false W args v W' := by
  have hW' := hW
  obtain ⟨p, q, hA0, hV, rfl, hfz, hnd⟩ := hW
  have hA : DataW.TrodAll enc Try.prog W 0 (fun _ => true) true Try.f10.params.toList args.toList ds p := hA0
  rw [Try.params10] at hA hval
  obtain ⟨v0, vs0, d0, ds0, p0, q0, hargs0, rfl, rfl, h0, r0⟩ := trodAll_cons hA
  obtain ⟨v1, vs1, d1, ds1, p1, q1, hargs1, e1, rfl, h1, r1⟩ := trodAll_cons r0
  subst e1
  obtain ⟨e9, e8, e7⟩ := trodAll_nil r1
  subst e9 e8 e7
  obtain rfl : args = #[v0, v1] := by cases args; simp_all
  obtain ⟨rfl, rfl⟩ := trodVars_none hV
  have hv0 := hval 0 _ v0 rfl rfl
  have hv1 := hval 1 _ v1 rfl rfl
  clear hA0
  obtain ⟨fuel0, hf0⟩ := h0
  obtain ⟨fuel1, hf1⟩ := h1
  obtain ⟨b0, b1, b2, b3, b4, b5, b6, _, _, _, _, _, _, _, ha⟩ := bounds_of_trod hf0
  obtain ⟨x0, rfl⟩ : ∃ cs, v0 = .agg cs := by simp only [Value.okWide] at hv0; obtain ⟨cs, h, _⟩ := hv0; exact ⟨cs, h⟩
  obtain rfl : x0 = #[.int .i64 b0, .int .i64 b1, .int .i64 b2, .int .i64 b3, .int .i64 b4, .int .i64 b5, .int .i64 b6] := by apply Array.toList_inj.1; simpa [Value.cells] using ha
  obtain ⟨n, f, hEl, hact⟩ := els_of_trod (sz := 4) Try.underlying72 (by kernel_rfl) (by omega) (Pe := ActOK) (fun n cs' d h => by
    obtain ⟨k, a, b, m, h0, h1, h2, h3, h4⟩ := actc_of_trod h
    simp [Lit.wf] at h0
    have q1 : IntKind.u8.min = 0 := rfl
    have q2 : IntKind.u8.max = 255 := rfl
    exact ⟨k, a, b, m, by omega, by omega, h1, h2, in64_of_wf h3, h4⟩) (v := v1) (by rw [← one_of_ok Try.underlying72 rfl hv1]; exact hf1)
  refine (walk b0 b1 b2 b3 b4 b5 b6 v1 n f W hEl hact).mono fun e W' ⟨he, hb⟩ => ⟨_, he, ?_⟩
  exact law_post Try.laidOut (by kernel_rfl) (by kernel_rfl) Try.underlying4 rfl rfl rfl rfl hW' hb

set_option maxRecDepth 100000 in
theorem lifted (os : Os) (started : os.Started) (H : Type) (enc : TypeId × Value → H) (F : Stop.Interp) :
    ReturnsInHanded {} Try.checked os 10 .any ((OpenSpec.ofChange Rows.cellRisesSpec).preRow enc Try.prog Try.f10 Rows.cellRisesRow.domain false Rows.cellRisesRow.laid) (((OpenSpec.ofChange Rows.cellRisesSpec).at F).post enc Try.prog Try.f10 false true false false) := by
  obtain ⟨places, hx⟩ : ∃ places, DataW.whole enc Try.prog ((World.holding Try.prog os ⟨#[], #[], []⟩).forCall (fun _ _ => 0) ⟨#[], #[.agg #[.int .i64 0, .int .i64 0, .int .i64 0, .int .i64 0, .int .i64 0, .int .i64 0, .int .i64 0], .slice none 0 0], []⟩).memory Try.f10.params.toList Rows.cellRisesSpec.vars false #[.agg #[.int .i64 0, .int .i64 0, .int .i64 0, .int .i64 0, .int .i64 0, .int .i64 0, .int .i64 0], .slice none 0 0].toList 8 = some ([.agg [.lit (.int .i64 0), .lit (.int .i64 0), .lit (.int .i64 0), .lit (.int .i64 0), .lit (.int .i64 0), .lit (.int .i64 0), .lit (.int .i64 0)], .nil], [], places) := ⟨[], by kernel_rfl⟩
  refine returnsInHanded_of_row (C := Try.checked) (s := OpenSpec.ofChange Rows.cellRisesSpec) Try.own started (by kernel_rfl) Try.func10
    (witness_row_at (enc := enc) (C := Try.checked) false (World.holding Try.prog os ⟨#[], #[], []⟩) #[.agg #[.int .i64 0, .int .i64 0, .int .i64 0, .int .i64 0, .int .i64 0, .int .i64 0, .int .i64 0], .slice none 0 0] rfl (by kernel_rfl) (by kernel_rfl) (by kernel_rfl)
      (OpenSpec.preRow_of_cond 8 hx (by kernel_rfl) (fun k hk => by cases hk) (by kernel_rfl) (laid_none _ _))) ?_
  intro W base args ds gs before hval hW _ _ _ _ _ _
  exact contract H enc W base args ds gs before hval hW

theorem proved : Rows.CellRisesSaid :=
  OpenClaim.holds_of_cond 10 Try.f10 rfl rfl rfl rfl rfl rfl rfl ⟨rfl, rfl, rfl, rfl, rfl⟩ rfl rfl rfl rfl rfl (by kernel_rfl) Try.func10 (by kernel_rfl)
    (of_decide_eq_true (by kernel_rfl)) (by unfold Func.isWrapper; first | (rw [if_pos (by decide +kernel)]; kernel_rfl) | (rw [if_neg (by decide +kernel)]; exact ⟨rfl, rfl⟩))
    (fun os started H enc _ F => by rw [OpenClaim.pre_eq_preRow]; exact lifted os started H enc F)
end Go.Proofs.Ytlgcnnhlbkidmaa.lawCellRises
