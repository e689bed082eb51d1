/-
  cell.Cell.Raise; intaglioref10.Cell's Birth and Raise.
-/
import Derived.Test.YtlgcnnhlbkidmaaCell
import Derived.Test.YtlgcnnhlbkidmaaSeq
namespace Go.Proofs.Ytlgcnnhlbkidmaa
open Go.RowKit

theorem lessP_turn (a b c d : Int) : (lessP c d a b = false) ↔ ((a = c ∧ b = d) ∨ lessP a b c d = true) := by
  unfold lessP
  simp only [Bool.or_eq_false_iff, Bool.or_eq_true, Bool.and_eq_true, decide_eq_true_eq, decide_eq_false_iff_not, Bool.and_eq_false_imp]
  omega

theorem bw_next {w1 W W' : World} (h : Below w1.heap.size w1 W) (k : Below W.heap.size W W') : Below w1.heap.size w1 W' := bw_then h k h.size
theorem raise_nil (a b : Int) (w : World) : Calls Try.prog 38 #[.pointer none, .agg #[.int .i64 a, .int .i64 b]] w fun e w' => e = .returned (.int .i64 2) ∧ Below w.heap.size w w' := by
  go_enter Try.func38, Try.ntmps38
  go_wp2_with fail
  all_goals (go_ret; exact ⟨rfl, bw_al (Below.refl _ _) (Nat.le_refl _) _⟩)
theorem raise_unmade (c : CellM) (pw : Value) (a b : Int) (g : Nat) (w : World) (hb : Blk w g (c.cells pw) 61) (hm : c.made = false) : Calls Try.prog 38 #[.pointer (some ⟨g, 0, none⟩), .agg #[.int .i64 a, .int .i64 b]] w fun e w' => e = .returned (.int .i64 2) ∧ Below w.heap.size w w' := by
  have c6 : ∀ o, (w.alloc o).cell? ⟨g, 6, none⟩ = some (.bool false) := fun o => by rw [← hm]; exact (hb.al o).at_ 6 rfl
  go_enter Try.func38, Try.ntmps38
  go_wp2_with fail
  all_goals (go_ret; exact ⟨rfl, bw_al (Below.refl _ _) (Nat.le_refl _) _⟩)

set_option maxHeartbeats 2000000 in
theorem raise_any (c : CellM) (a b : Int) (g gp : Nat) (p : Pow) (w : World) (hb : Blk w g (c.cells (.pointer (some ⟨gp, 0, none⟩))) 61) (hm : c.made = true) (hp : Blk w gp p.cells 92) (hok : p.ok) (hne : g ≠ gp) :
    Calls Try.prog 38 #[.pointer (some ⟨g, 0, none⟩), .agg #[.int .i64 a, .int .i64 b]] w fun e w' => e = .returned (.int .i64 (c.raise a b p.act.2).2) ∧
      Blk w' g ((c.raise a b p.act.2).1.cells (.pointer (some ⟨gp, 0, none⟩))) 61 ∧ Blk w' gp (p.actIf (c.asksR a b)).cells 92 ∧ Turns (fun k => k = g ∨ k = gp) w w' := by
  obtain ⟨life, pl, pn, ml, mp, made⟩ := c
  simp only at hm
  subst hm
  obtain ⟨e, he⟩ : ∃ e, p.act.2 = e := ⟨_, rfl⟩
  obtain ⟨B, hB⟩ : ∃ B, w.heap.size = B := ⟨_, rfl⟩
  simp only [he]
  have c6 : ∀ o, (w.alloc o).cell? ⟨g, 6, none⟩ = some (.bool true) := fun o => (hb.al o).at_ 6 rfl
  go_enter Try.func38, Try.ntmps38
  by_cases h1 : a < 0 ∨ b < 0
  · have hr : CellM.raise ⟨life, pl, pn, ml, mp, true⟩ a b e = (⟨life, pl, pn, ml, mp, true⟩, 1) := by simp only [CellM.raise, if_pos h1]
    have ha : CellM.asksR ⟨life, pl, pn, ml, mp, true⟩ a b = false := by simp only [CellM.asksR, decide_eq_true h1, Bool.not_true, Bool.false_and]
    rw [hr, ha]
    rcases Int.lt_or_le a 0 with h2 | h2
    · go_wp2_with fail
      all_goals (go_ret; exact ⟨rfl, hb.al _, hp.al _, (Turns.refl _ _).al _⟩)
    · have h3 : b < 0 := by omega
      go_wp2_with fail
      all_goals (go_ret; exact ⟨rfl, hb.al _, hp.al _, (Turns.refl _ _).al _⟩)
  · have h1a : ¬ a < 0 := by omega
    have h1b : ¬ b < 0 := by omega
    go_upto_region 5 with fail
    have h1 := ()
    have ba : Blk (w.alloc (.cells #[.int .i64 a, .int .i64 b] 39)) B [.int .i64 a, .int .i64 b] 39 := Blk.mk_ _ hB.symm rfl
    have hb1 := hb.al (.cells #[.int .i64 a, .int .i64 b] 39)
    have hp1 := hp.al (.cells #[.int .i64 a, .int .i64 b] 39)
    have ht := (Turns.refl (fun k => k = g ∨ k = gp) w).al (.cells #[.int .i64 a, .int .i64 b] 39)
    have hlt := hb.lt
    have hltp := hp.lt
    clear c6
    generalize (w.alloc (.cells #[.int .i64 a, .int .i64 b] 39)) = w1 at *
    have d0 : w1.cell? ⟨B, 0, none⟩ = some (.int .i64 a) := ba.at_ 0 rfl
    have d1 : w1.cell? ⟨B, 1, none⟩ = some (.int .i64 b) := ba.at_ 1 rfl
    have c1 : w1.cell? ⟨g, 1, none⟩ = some (.int .i64 life) := hb1.at_ 1 rfl
    have c2 : w1.cell? ⟨g, 2, none⟩ = some (.int .i64 pl) := hb1.at_ 2 rfl
    have c3 : w1.cell? ⟨g, 3, none⟩ = some (.int .i64 pn) := hb1.at_ 3 rfl
    clear hb hp
    have hB1 : B < w1.heap.size := ba.lt
    have hg1 : g < w1.heap.size := hb1.lt
    have h1c : ¬ (a < 0 ∨ b < 0) := by omega
    have hgp1 : gp < w1.heap.size := hp1.lt
    have done13 : (lessP pl pn a b = false ∨ life < a) → CellM.raise ⟨life, pl, pn, ml, mp, true⟩ a b e = (⟨life, pl, pn, ml, mp, true⟩, 13) ∧ CellM.asksR ⟨life, pl, pn, ml, mp, true⟩ a b = false := fun hq =>
      ⟨by simp only [CellM.raise]; rw [if_neg h1c, if_pos hq], by simp only [CellM.asksR]; rw [decide_eq_true hq]; simp⟩
    by_cases c1 : a = pl ∧ b = pn
    · obtain ⟨rfl, rfl⟩ := c1
      obtain ⟨hr, ha⟩ := done13 (.inl ((lessP_turn _ _ _ _).2 (.inl ⟨rfl, rfl⟩)))
      clear done13
      go_quiet (fail)
      go_wp2_with fail
      all_goals (go_ret; exact ⟨rfl, hb1.dr _, hp1.dr _, ht.dN _⟩)
    have c0 : (a = pl ∧ ¬ b = pn) ∨ ¬ a = pl := by omega
    clear c1
    by_cases c2 : lessP a b pl pn = true
    · obtain ⟨hr, ha⟩ := done13 (.inl ((lessP_turn _ _ _ _).2 (.inr c2)))
      clear done13
      rcases c0 with ⟨rfl, c0⟩ | c0
      all_goals (
      refine region_plan ⟨[0, 0, 2, 6, 14, 31, 63, 127, 127, 383, 895, 1919, 4095, 8191, 16383, 32767, 65535, 32767, 163839, 425983, 950271, 2097151, 4194303, 8388607], [12], [0, 0, 0, 0, 0, 0, 0, 0, 0, 0, 0, 0, 0, 1, 1, 1, 1, 1, 1, 1, 1, 1, 1, 1]⟩
        [⟨[0, 1, 2, 3, 4, 5, 6, 7, 8, 9, 10, 11], [0, 2, 3, 4, 5, 7, 9, 10, 11], some 12⟩, ⟨[13, 14, 15, 16, 17, 18, 19, 20, 21, 22, 23], [15, 16, 18, 19, 20, 21], none⟩] 69 (by kernel_rfl) (by kernel_rfl) (by kernel_rfl) (by kernel_rfl) rfl ?_
      simp only [SeqGo, opsAt_cons, opsAt_nil, List.getElem?_cons, Option.toList_some, List.singleton_append, ↓reduceIte, Nat.reduceEqDiff, Nat.reduceSub]
      go_wp2_with fail
      all_goals (refine ⟨by (simp only [Sames, Same]; go_simp), ?_⟩)
      all_goals go_wp2_with (go_at_call 28; refine (less_any _ _ _ _ _).mono ?_; rintro e9 w9 ⟨he9, hbl⟩; (try rw [c2] at he9); subst he9; have hbl9 : Below w1.heap.size w1 w9 := bw_next (bw_d1 (Below.refl _ _)) hbl; have g4 := ba.keep hbl9 hB1; have q0 := g4.at_ 0 rfl; have q1 := g4.at_ 1 rfl; have g1 := hb1.keep hbl9 hg1; have k1 : w9.cell? ⟨g, 1, none⟩ = some (.int .i64 life) := g1.at_ 1 rfl)
      all_goals (refine ⟨by (simp only [Sames, Same]; go_simp), ?_⟩)

      )
      all_goals go_wp2_with fail
      all_goals (go_ret; (try rw [hr]); (try rw [ha]); exact ⟨rfl, g1, hp1.keep hbl9 hgp1, ht.trans (Turns.of_below hbl9)⟩)
    have c2' : lessP a b pl pn = false := by simpa using c2
    have c6 : lessP pl pn a b = true := by
      cases h : lessP pl pn a b with
      | true => rfl
      | false =>
        rcases (lessP_turn _ _ _ _).1 h with h | h
        · omega
        · rw [c2'] at h; cases h
    clear c2
    by_cases c3 : life < a
    · obtain ⟨hr, ha⟩ := done13 (.inr c3)
      clear done13
      rcases c0 with ⟨rfl, c0⟩ | c0
      all_goals (
      refine region_plan ⟨[0, 0, 2, 6, 14, 31, 63, 127, 127, 383, 895, 1919, 4095, 8191, 16383, 32767, 65535, 32767, 163839, 425983, 950271, 2097151, 4194303, 8388607], [12], [0, 0, 0, 0, 0, 0, 0, 0, 0, 0, 0, 0, 0, 1, 1, 1, 1, 1, 1, 1, 1, 1, 1, 1]⟩
        [⟨[0, 1, 2, 3, 4, 5, 6, 7, 8, 9, 10, 11], [0, 2, 3, 4, 5, 7, 9, 10, 11], some 12⟩, ⟨[13, 14, 15, 16, 17, 18, 19, 20, 21, 22, 23], [15, 16, 18, 19, 20, 21], none⟩] 69 (by kernel_rfl) (by kernel_rfl) (by kernel_rfl) (by kernel_rfl) rfl ?_
      simp only [SeqGo, opsAt_cons, opsAt_nil, List.getElem?_cons, Option.toList_some, List.singleton_append, ↓reduceIte, Nat.reduceEqDiff, Nat.reduceSub]
      go_wp2_with fail
      all_goals (refine ⟨by (simp only [Sames, Same]; go_simp), ?_⟩)
      all_goals go_wp2_with (go_at_call 28; refine (less_any _ _ _ _ _).mono ?_; rintro e9 w9 ⟨he9, hbl⟩; (try rw [c2'] at he9); subst he9; have hbl9 : Below w1.heap.size w1 w9 := bw_next (bw_d1 (Below.refl _ _)) hbl; have g4 := ba.keep hbl9 hB1; have q0 := g4.at_ 0 rfl; have q1 := g4.at_ 1 rfl; have g1 := hb1.keep hbl9 hg1; have k1 : w9.cell? ⟨g, 1, none⟩ = some (.int .i64 life) := g1.at_ 1 rfl)
      all_goals (refine ⟨by (simp only [Sames, Same]; go_simp), ?_⟩)

      )
      all_goals go_wp2_with fail
      all_goals (go_ret; (try rw [hr]); (try rw [ha]); exact ⟨rfl, g1, hp1.keep hbl9 hgp1, ht.trans (Turns.of_below hbl9)⟩)
    clear done13
    have h13 : ¬ (lessP pl pn a b = false ∨ life < a) := by rw [c6]; simpa using c3
    by_cases c4 : mp < b
    · have hr : CellM.raise ⟨life, pl, pn, ml, mp, true⟩ a b e = (⟨life, pl, pn, ml, mp, true⟩, 7) := by simp only [CellM.raise]; rw [if_neg h1c, if_neg h13, if_pos c4]
      have ha : CellM.asksR ⟨life, pl, pn, ml, mp, true⟩ a b = false := by simp only [CellM.asksR]; rw [decide_eq_true c4]; simp
      clear h13
      rcases c0 with ⟨rfl, c0⟩ | c0
      all_goals (
      refine region_plan ⟨[0, 0, 2, 6, 14, 31, 63, 127, 127, 383, 895, 1919, 4095, 8191, 16383, 32767, 65535, 32767, 163839, 425983, 950271, 2097151, 4194303, 8388607], [12], [0, 0, 0, 0, 0, 0, 0, 0, 0, 0, 0, 0, 0, 1, 1, 1, 1, 1, 1, 1, 1, 1, 1, 1]⟩
        [⟨[0, 1, 2, 3, 4, 5, 6, 7, 8, 9, 10, 11], [0, 2, 3, 4, 5, 7, 9, 10, 11], some 12⟩, ⟨[13, 14, 15, 16, 17, 18, 19, 20, 21, 22, 23], [15, 16, 18, 19, 20, 21], none⟩] 69 (by kernel_rfl) (by kernel_rfl) (by kernel_rfl) (by kernel_rfl) rfl ?_
      simp only [SeqGo, opsAt_cons, opsAt_nil, List.getElem?_cons, Option.toList_some, List.singleton_append, ↓reduceIte, Nat.reduceEqDiff, Nat.reduceSub]
      go_wp2_with fail
      all_goals (refine ⟨by (simp only [Sames, Same]; go_simp), ?_⟩)
      all_goals go_wp2_with (go_at_call 28; refine (less_any _ _ _ _ _).mono ?_; rintro e9 w9 ⟨he9, hbl⟩; (try rw [c2'] at he9); subst he9; have hbl9 : Below w1.heap.size w1 w9 := bw_next (bw_d1 (Below.refl _ _)) hbl; have g4 := ba.keep hbl9 hB1; have q0 := g4.at_ 0 rfl; have q1 := g4.at_ 1 rfl; have g1 := hb1.keep hbl9 hg1; have k1 : w9.cell? ⟨g, 1, none⟩ = some (.int .i64 life) := g1.at_ 1 rfl)
      all_goals (refine ⟨by (simp only [Sames, Same]; go_simp), ?_⟩)

      )
      all_goals go_upto_region 7 with fail
      all_goals (
        have g2 := hp1.keep hbl9 hgp1
        have g3 := ht.trans (Turns.of_below hbl9)
        have k5 : w9.cell? ⟨g, 5, none⟩ = some (.int .i64 mp) := g1.at_ 5 rfl
        go_quiet (fail)
        go_wp2_with fail)
      all_goals (go_ret; (try rw [hr]); (try rw [ha]); exact ⟨rfl, g1.dr _, g2.dr _, g3.dN _⟩)
    have ha : CellM.asksR ⟨life, pl, pn, ml, mp, true⟩ a b = true := by
      simp only [CellM.asksR]
      rw [decide_eq_false h1c, decide_eq_false h13, decide_eq_false c4]
      rfl
    by_cases c5 : e = 0
    · subst c5
      have hr : CellM.raise ⟨life, pl, pn, ml, mp, true⟩ a b 0 = (⟨life, a, b, ml, mp, true⟩, 0) := by simp only [CellM.raise]; rw [if_neg h1c, if_neg h13, if_neg c4, if_neg (by simp)]
      clear h13
      rcases c0 with ⟨rfl, c0⟩ | c0
      all_goals (
      refine region_plan ⟨[0, 0, 2, 6, 14, 31, 63, 127, 127, 383, 895, 1919, 4095, 8191, 16383, 32767, 65535, 32767, 163839, 425983, 950271, 2097151, 4194303, 8388607], [12], [0, 0, 0, 0, 0, 0, 0, 0, 0, 0, 0, 0, 0, 1, 1, 1, 1, 1, 1, 1, 1, 1, 1, 1]⟩
        [⟨[0, 1, 2, 3, 4, 5, 6, 7, 8, 9, 10, 11], [0, 2, 3, 4, 5, 7, 9, 10, 11], some 12⟩, ⟨[13, 14, 15, 16, 17, 18, 19, 20, 21, 22, 23], [15, 16, 18, 19, 20, 21], none⟩] 69 (by kernel_rfl) (by kernel_rfl) (by kernel_rfl) (by kernel_rfl) rfl ?_
      simp only [SeqGo, opsAt_cons, opsAt_nil, List.getElem?_cons, Option.toList_some, List.singleton_append, ↓reduceIte, Nat.reduceEqDiff, Nat.reduceSub]
      go_wp2_with fail
      all_goals (refine ⟨by (simp only [Sames, Same]; go_simp), ?_⟩)
      all_goals go_wp2_with (go_at_call 28; refine (less_any _ _ _ _ _).mono ?_; rintro e9 w9 ⟨he9, hbl⟩; (try rw [c2'] at he9); subst he9; have hbl9 : Below w1.heap.size w1 w9 := bw_next (bw_d1 (Below.refl _ _)) hbl; have g4 := ba.keep hbl9 hB1; have q0 := g4.at_ 0 rfl; have q1 := g4.at_ 1 rfl; have g1 := hb1.keep hbl9 hg1; have k1 : w9.cell? ⟨g, 1, none⟩ = some (.int .i64 life) := g1.at_ 1 rfl)
      all_goals (refine ⟨by (simp only [Sames, Same]; go_simp), ?_⟩)

      )
      all_goals go_upto_region 7 with fail
      all_goals (
        have g2 := hp1.keep hbl9 hgp1
        have g3 := ht.trans (Turns.of_below hbl9)
        have k5 : w9.cell? ⟨g, 5, none⟩ = some (.int .i64 mp) := g1.at_ 5 rfl
        go_quiet (fail)
        have k0 : w9.cell? ⟨g, 0, none⟩ = some (.pointer (some ⟨gp, 0, none⟩)) := g1.at_ 0 rfl
        go_wp2_with (go_at_call 51; refine (act_any p gp _ (g2.dr nq) hok).mono ?_; rintro e2 w2 ⟨rfl, hp2, o2⟩; have hb2 := (g1.dr nq).only o2 hne; have f2 := hb2.free 2; have f3 := hb2.free 3; have hBp : B ≠ gp := (by omega); have hb3 := (g4.dr nq).only o2 hBp; have q3 := hb3.at_ 0 rfl; have q4 := hb3.at_ 1 rfl; have q5 := hb2.at_ 2 rfl; have q6 := hb2.at_ 3 rfl))
      all_goals go_ret
      all_goals ((try rw [hr]); (try rw [ha]))
      all_goals exact ⟨rfl, (hb2.set 2 _).set 3 _, (hp2.other (Ne.symm hne) _).other (Ne.symm hne) _, (((g3.dN nq).trans (Turns.of_only o2 (.inr rfl))).trans (Turns.set _ _ _ _ (.inl rfl))).trans (Turns.set _ _ _ _ (.inl rfl))⟩
    · have hr : CellM.raise ⟨life, pl, pn, ml, mp, true⟩ a b e = (⟨life, pl, pn, ml, mp, true⟩, e) := by simp only [CellM.raise]; rw [if_neg h1c, if_neg h13, if_neg c4, if_pos c5]
      clear h13
      have h20 : (e == 0) = false := by simpa using c5
      have h21 : (e != 0) = true := by simpa using c5
      rcases c0 with ⟨rfl, c0⟩ | c0
      all_goals (
      refine region_plan ⟨[0, 0, 2, 6, 14, 31, 63, 127, 127, 383, 895, 1919, 4095, 8191, 16383, 32767, 65535, 32767, 163839, 425983, 950271, 2097151, 4194303, 8388607], [12], [0, 0, 0, 0, 0, 0, 0, 0, 0, 0, 0, 0, 0, 1, 1, 1, 1, 1, 1, 1, 1, 1, 1, 1]⟩
        [⟨[0, 1, 2, 3, 4, 5, 6, 7, 8, 9, 10, 11], [0, 2, 3, 4, 5, 7, 9, 10, 11], some 12⟩, ⟨[13, 14, 15, 16, 17, 18, 19, 20, 21, 22, 23], [15, 16, 18, 19, 20, 21], none⟩] 69 (by kernel_rfl) (by kernel_rfl) (by kernel_rfl) (by kernel_rfl) rfl ?_
      simp only [SeqGo, opsAt_cons, opsAt_nil, List.getElem?_cons, Option.toList_some, List.singleton_append, ↓reduceIte, Nat.reduceEqDiff, Nat.reduceSub]
      go_wp2_with fail
      all_goals (refine ⟨by (simp only [Sames, Same]; go_simp), ?_⟩)
      all_goals go_wp2_with (go_at_call 28; refine (less_any _ _ _ _ _).mono ?_; rintro e9 w9 ⟨he9, hbl⟩; (try rw [c2'] at he9); subst he9; have hbl9 : Below w1.heap.size w1 w9 := bw_next (bw_d1 (Below.refl _ _)) hbl; have g4 := ba.keep hbl9 hB1; have q0 := g4.at_ 0 rfl; have q1 := g4.at_ 1 rfl; have g1 := hb1.keep hbl9 hg1; have k1 : w9.cell? ⟨g, 1, none⟩ = some (.int .i64 life) := g1.at_ 1 rfl)
      all_goals (refine ⟨by (simp only [Sames, Same]; go_simp), ?_⟩)

      )
      all_goals go_upto_region 7 with fail
      all_goals (
        have g2 := hp1.keep hbl9 hgp1
        have g3 := ht.trans (Turns.of_below hbl9)
        have k5 : w9.cell? ⟨g, 5, none⟩ = some (.int .i64 mp) := g1.at_ 5 rfl
        go_quiet (fail)
        have k0 : w9.cell? ⟨g, 0, none⟩ = some (.pointer (some ⟨gp, 0, none⟩)) := g1.at_ 0 rfl
        go_wp2_with (go_at_call 51; refine (act_any p gp _ (g2.dr nq) hok).mono ?_; rintro e2 w2 ⟨rfl, hp2, o2⟩; have hb2 := (g1.dr nq).only o2 hne; have f2 := hb2.free 2; have f3 := hb2.free 3; have hBp : B ≠ gp := (by omega); have hb3 := (g4.dr nq).only o2 hBp; have q3 := hb3.at_ 0 rfl; have q4 := hb3.at_ 1 rfl; have q5 := hb2.at_ 2 rfl; have q6 := hb2.at_ 3 rfl))
      all_goals go_ret
      all_goals ((try rw [hr]); (try rw [ha]))
      all_goals exact ⟨rfl, hb2, hp2, (g3.dN nq).trans (Turns.of_only o2 (.inr rfl))⟩
end Go.Proofs.Ytlgcnnhlbkidmaa
