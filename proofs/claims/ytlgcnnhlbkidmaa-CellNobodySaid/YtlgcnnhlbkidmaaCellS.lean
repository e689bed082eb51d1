/-
  intaglioref10.Cell: Birth, Raise.
-/
import Derived.Test.YtlgcnnhlbkidmaaCellR
namespace Go.Proofs.Ytlgcnnhlbkidmaa
open Go.RowKit

def rcell (gq : Nat) (b0 b1 b2 b3 b4 b5 b6 : Int) (c : CellM) : List Value :=
  [.pointer (some ⟨gq, 0, none⟩), .int .i64 b0, .int .i64 b1, .int .i64 b2, .int .i64 b3, .int .i64 b4, .int .i64 b5, .int .i64 b6, .int .i64 c.life, .int .i64 c.pl, .int .i64 c.pn]

set_option maxHeartbeats 1000000 in
theorem rbirth_any (c : CellM) (g gq : Nat) (b0 b1 b2 b3 b4 b5 b6 : Int) (q : RPow) (w : World) (hb : Blk w g (rcell gq b0 b1 b2 b3 b4 b5 b6 c) 78) (hq : Blk w gq q.cells 85) (hql : q.left ≤ 9223372036854775807) (hne : g ≠ gq) (hl : 0 ≤ c.life) (hml : c.ml = bnd b4) :
    Calls Try.prog 44 #[.pointer (some ⟨g, 0, none⟩)] w fun e w' => e = .returned (.tuple #[.int .i64 (c.birth q.act.2).2.1, .int .i64 (c.birth q.act.2).2.2]) ∧
      Blk w' g (rcell gq b0 b1 b2 b3 b4 b5 b6 (c.birth q.act.2).1) 78 ∧ Blk w' gq (q.actIf c.asksB).cells 85 ∧ Turns (fun k => k = g ∨ k = gq) w w' := by
  have hml1 := bnd_hi b4
  obtain ⟨life, pl, pn, ml, mp, made⟩ := c
  simp only at hl hml
  obtain ⟨B, hB⟩ : ∃ B, bnd b4 = B := ⟨_, rfl⟩
  rw [hB] at hml1 hml
  have c0 : w.cell? ⟨g, 0, none⟩ = some (.pointer (some ⟨gq, 0, none⟩)) := hb.at_ 0 rfl
  have c1 : w.cell? ⟨g, 5, none⟩ = some (.int .i64 b4) := hb.at_ 5 rfl
  have c4 : w.cell? ⟨g, 8, none⟩ = some (.int .i64 life) := hb.at_ 8 rfl
  obtain ⟨e, he⟩ : ∃ e, q.act.2 = e := ⟨_, rfl⟩
  simp only [he]
  go_enter Try.func44, Try.ntmps44
  by_cases h1 : ml ≤ life
  · go_upto_region 1 with fail
    go_quiet ((go_at_call 49; exact Calls.quiet_of_same ((bound_any _ _).mono fun _ _ h => ⟨h.1, h.2.symm⟩)))
    have h2 : B ≤ life := by omega
    go_wp2_with fail
    all_goals go_ret2
    simp only [CellM.birth, CellM.asksB, if_pos h1, decide_eq_false (show ¬ life < ml by omega), RPow.actIf]
    exact ⟨rfl, hb.dr _, hq.dr _, (Turns.refl _ _).dN _⟩
  · have ha : q.actIf (CellM.asksB ⟨life, pl, pn, ml, mp, made⟩) = q.act.1 := by simp only [CellM.asksB, decide_eq_true (show life < ml by omega), RPow.actIf, if_true]
    rw [ha]
    have h2 : ¬ B ≤ life := by omega
    go_upto_region 1 with fail
    go_quiet ((go_at_call 49; exact Calls.quiet_of_same ((bound_any _ _).mono fun _ _ h => ⟨h.1, h.2.symm⟩)))
    go_upto_region 3 with fail
    have hq' : Blk (w.drewN nq) gq q.cells 85 := hq.dr _
    by_cases h2 : e = 0
    · subst h2
      go_wp2_with (go_at_call 52; refine (ract_any q gq _ hq' hql).mono ?_; rintro e2 w2 ⟨rfl, hp2, o2⟩; have hb2 := (hb.dr nq).only o2 hne; have k1 : w2.cell? ⟨g, 8, none⟩ = some (.int .i64 life) := hb2.at_ 8 rfl; have k2 := hb2.free 8)
      all_goals go_ret2
      simp only [CellM.birth, if_neg (show ¬ ml ≤ life by omega), ne_eq, not_true_eq_false, if_false]
      exact ⟨rfl, hb2.set 8 _, hp2.other (Ne.symm hne) _, (((Turns.refl _ w).dN nq).trans (Turns.of_only o2 (.inr rfl))).trans (Turns.set _ _ _ _ (.inl rfl))⟩
    · have h20 : (e == 0) = false := by simpa using h2
      have h21 : (e != 0) = true := by simpa using h2
      go_wp2_with (go_at_call 52; refine (ract_any q gq _ hq' hql).mono ?_; rintro e2 w2 ⟨rfl, hp2, o2⟩; have hb2 := (hb.dr nq).only o2 hne)
      all_goals go_ret2
      simp only [CellM.birth, if_neg (show ¬ ml ≤ life by omega), if_pos (show e ≠ 0 by omega)]
      exact ⟨rfl, hb2, hp2, ((Turns.refl _ w).dN nq).trans (Turns.of_only o2 (.inr rfl))⟩

set_option maxHeartbeats 2000000 in
theorem rraise_any (c : CellM) (a b : Int) (g gq : Nat) (b0 b1 b2 b3 b4 b5 b6 : Int) (q : RPow) (w : World) (hb : Blk w g (rcell gq b0 b1 b2 b3 b4 b5 b6 c) 78) (hq : Blk w gq q.cells 85) (hql : q.left ≤ 9223372036854775807) (hne : g ≠ gq) (hmp : c.mp = bnd b2) :
    Calls Try.prog 48 #[.pointer (some ⟨g, 0, none⟩), .agg #[.int .i64 a, .int .i64 b]] w fun e w' => e = .returned (.int .i64 (c.raise a b q.act.2).2) ∧
      Blk w' g (rcell gq b0 b1 b2 b3 b4 b5 b6 (c.raise a b q.act.2).1) 78 ∧ Blk w' gq (q.actIf (c.asksR a b)).cells 85 ∧ Turns (fun k => k = g ∨ k = gq) w w' := by
  obtain ⟨life, pl, pn, ml, mp, made⟩ := c
  simp only at hmp
  obtain ⟨M, hM⟩ : ∃ M, bnd b2 = M := ⟨_, rfl⟩
  rw [hM] at hmp
  obtain ⟨e, he⟩ : ∃ e, q.act.2 = e := ⟨_, rfl⟩
  obtain ⟨B, hB⟩ : ∃ B, w.heap.size = B := ⟨_, rfl⟩
  simp only [he]
  go_enter Try.func48, Try.ntmps48
  by_cases h1 : a < 0 ∨ b < 0
  · have hr : CellM.raise ⟨life, pl, pn, ml, mp, made⟩ a b e = (⟨life, pl, pn, ml, mp, made⟩, 1) := by simp only [CellM.raise, if_pos h1]
    have ha : CellM.asksR ⟨life, pl, pn, ml, mp, made⟩ a b = false := by simp only [CellM.asksR, decide_eq_true h1, Bool.not_true, Bool.false_and]
    rw [hr, ha]
    rcases Int.lt_or_le a 0 with h2 | h2
    · go_wp2_with fail
      all_goals (go_ret; exact ⟨rfl, hb.al _, hq.al _, (Turns.refl _ _).al _⟩)
    · have h3 : b < 0 := by omega
      go_wp2_with fail
      all_goals (go_ret; exact ⟨rfl, hb.al _, hq.al _, (Turns.refl _ _).al _⟩)
  · have h1a : ¬ a < 0 := by omega
    have h1b : ¬ b < 0 := by omega
    go_upto_region 3 with fail
    have ba : Blk (w.alloc (.cells #[.int .i64 a, .int .i64 b] 39)) B [.int .i64 a, .int .i64 b] 39 := Blk.mk_ _ hB.symm rfl
    have hb1 := hb.al (.cells #[.int .i64 a, .int .i64 b] 39)
    have hq1 := hq.al (.cells #[.int .i64 a, .int .i64 b] 39)
    have ht := (Turns.refl (fun k => k = g ∨ k = gq) w).al (.cells #[.int .i64 a, .int .i64 b] 39)
    have hlt := hb.lt
    have hltq := hq.lt
    clear hb hq
    generalize (w.alloc (.cells #[.int .i64 a, .int .i64 b] 39)) = w1 at *
    have d0 : w1.cell? ⟨B, 0, none⟩ = some (.int .i64 a) := ba.at_ 0 rfl
    have d1 : w1.cell? ⟨B, 1, none⟩ = some (.int .i64 b) := ba.at_ 1 rfl
    have c1 : w1.cell? ⟨g, 9, none⟩ = some (.int .i64 pl) := hb1.at_ 9 rfl
    have c2 : w1.cell? ⟨g, 10, none⟩ = some (.int .i64 pn) := hb1.at_ 10 rfl
    have c3 : w1.cell? ⟨g, 8, none⟩ = some (.int .i64 life) := hb1.at_ 8 rfl
    have hB1 : B < w1.heap.size := ba.lt
    have hg1 : g < w1.heap.size := hb1.lt
    have hgq1 : gq < w1.heap.size := hq1.lt
    have h1c : ¬ (a < 0 ∨ b < 0) := by omega
    clear h1
    by_cases h13 : lessP pl pn a b = false ∨ life < a
    · have hr : CellM.raise ⟨life, pl, pn, ml, mp, made⟩ a b e = (⟨life, pl, pn, ml, mp, made⟩, 13) := by simp only [CellM.raise]; rw [if_neg h1c, if_pos h13]
      have ha : CellM.asksR ⟨life, pl, pn, ml, mp, made⟩ a b = false := by simp only [CellM.asksR]; rw [decide_eq_true h13]; simp
      have h14 : lessP pl pn a b = false ∨ (lessP pl pn a b = true ∧ life < a) := by
        rcases h13 with h | h
        · exact .inl h
        · cases lessP pl pn a b
          · exact .inl rfl
          · exact .inr ⟨rfl, h⟩
      clear h13
      rcases h14 with h14 | ⟨h14, h15⟩
      all_goals (
      refine region_plan ⟨[0, 1, 3, 7, 0, 31, 63, 127, 255, 511, 255, 1279, 3327, 7423, 16383, 32767], [5], [0, 0, 0, 0, 0, 0, 1, 1, 1, 1, 1, 1, 1, 1, 1, 1]⟩
        [⟨[0, 1, 2, 3, 4], [1, 2, 3, 4], some 5⟩, ⟨[6, 7, 8, 9, 10, 11, 12, 13, 14, 15], [6, 8, 9, 11, 12, 13, 14], none⟩] 51 (by kernel_rfl) (by kernel_rfl) (by kernel_rfl) (by kernel_rfl) rfl ?_
      simp only [SeqGo, opsAt_cons, opsAt_nil, List.getElem?_cons, Option.toList_some, List.singleton_append, ↓reduceIte, Nat.reduceEqDiff, Nat.reduceSub]
      go_wp2_with fail
      refine ⟨by (simp only [Sames, Same]; go_simp), ?_⟩
      go_wp2_with (go_at_call 29; refine (rless_any _ _ _ _ _).mono ?_; rintro e9 w9 ⟨he9, hbl⟩; rw [h14] at he9; subst he9; have hbl9 : Below w1.heap.size w1 w9 := bw_next (bw_d1 (Below.refl _ _)) hbl; have g4 := ba.keep hbl9 hB1; have q0 := g4.at_ 0 rfl; have q1 := g4.at_ 1 rfl; have g1 := hb1.keep hbl9 hg1; have k1 : w9.cell? ⟨g, 8, none⟩ = some (.int .i64 life) := g1.at_ 8 rfl; have k2 : w9.cell? ⟨g, 3, none⟩ = some (.int .i64 b2) := g1.at_ 3 rfl)
      refine ⟨by (simp only [Sames, Same]; go_simp), ?_⟩
      )
      all_goals go_wp2_with fail
      all_goals (go_ret; (try rw [hr]); (try rw [ha]); exact ⟨rfl, g1, hq1.keep hbl9 hgq1, ht.trans (Turns.of_below hbl9)⟩)
    · have h14 : lessP pl pn a b = true := by cases h : lessP pl pn a b; exact absurd (.inl h) h13; rfl
      have h15 : ¬ life < a := fun h => h13 (.inr h)
      by_cases c4 : mp < b
      · have hr : CellM.raise ⟨life, pl, pn, ml, mp, made⟩ a b e = (⟨life, pl, pn, ml, mp, made⟩, 7) := by simp only [CellM.raise]; rw [if_neg h1c, if_neg h13, if_pos c4]
        have ha : CellM.asksR ⟨life, pl, pn, ml, mp, made⟩ a b = false := by simp only [CellM.asksR]; rw [decide_eq_true c4]; simp
        clear h13
        rw [hmp] at c4
        refine region_plan ⟨[0, 1, 3, 7, 0, 31, 63, 127, 255, 511, 255, 1279, 3327, 7423, 16383, 32767], [5], [0, 0, 0, 0, 0, 0, 1, 1, 1, 1, 1, 1, 1, 1, 1, 1]⟩
          [⟨[0, 1, 2, 3, 4], [1, 2, 3, 4], some 5⟩, ⟨[6, 7, 8, 9, 10, 11, 12, 13, 14, 15], [6, 8, 9, 11, 12, 13, 14], none⟩] 51 (by kernel_rfl) (by kernel_rfl) (by kernel_rfl) (by kernel_rfl) rfl ?_
        simp only [SeqGo, opsAt_cons, opsAt_nil, List.getElem?_cons, Option.toList_some, List.singleton_append, ↓reduceIte, Nat.reduceEqDiff, Nat.reduceSub]
        go_wp2_with fail
        refine ⟨by (simp only [Sames, Same]; go_simp), ?_⟩
        go_wp2_with (go_at_call 29; refine (rless_any _ _ _ _ _).mono ?_; rintro e9 w9 ⟨he9, hbl⟩; rw [h14] at he9; subst he9; have hbl9 : Below w1.heap.size w1 w9 := bw_next (bw_d1 (Below.refl _ _)) hbl; have g4 := ba.keep hbl9 hB1; have q0 := g4.at_ 0 rfl; have q1 := g4.at_ 1 rfl; have g1 := hb1.keep hbl9 hg1; have k1 : w9.cell? ⟨g, 8, none⟩ = some (.int .i64 life) := g1.at_ 8 rfl; have k2 : w9.cell? ⟨g, 3, none⟩ = some (.int .i64 b2) := g1.at_ 3 rfl)
        refine ⟨by (simp only [Sames, Same]; go_simp), ?_⟩
        go_upto_region 5 with fail
        have g2 := hq1.keep hbl9 hgq1
        have g3 := ht.trans (Turns.of_below hbl9)
        go_quiet ((go_at_call 49; exact Calls.quiet_of_same ((bound_any _ _).mono fun _ _ h => ⟨h.1, h.2.symm⟩)))
        go_wp2_with fail
        all_goals (go_ret; (try rw [hr]); (try rw [ha]); exact ⟨rfl, g1.dr _, g2.dr _, g3.dN _⟩)
      have ha : CellM.asksR ⟨life, pl, pn, ml, mp, made⟩ a b = true := by
        simp only [CellM.asksR]
        rw [decide_eq_false h1c, decide_eq_false h13, decide_eq_false c4]
        rfl
      have c4' : ¬ M < b := by rw [← hmp]; exact c4
      by_cases c5 : e = 0
      · subst c5
        have hr : CellM.raise ⟨life, pl, pn, ml, mp, made⟩ a b 0 = (⟨life, a, b, ml, mp, made⟩, 0) := by simp only [CellM.raise]; rw [if_neg h1c, if_neg h13, if_neg c4, if_neg (by simp)]
        clear h13
        refine region_plan ⟨[0, 1, 3, 7, 0, 31, 63, 127, 255, 511, 255, 1279, 3327, 7423, 16383, 32767], [5], [0, 0, 0, 0, 0, 0, 1, 1, 1, 1, 1, 1, 1, 1, 1, 1]⟩
          [⟨[0, 1, 2, 3, 4], [1, 2, 3, 4], some 5⟩, ⟨[6, 7, 8, 9, 10, 11, 12, 13, 14, 15], [6, 8, 9, 11, 12, 13, 14], none⟩] 51 (by kernel_rfl) (by kernel_rfl) (by kernel_rfl) (by kernel_rfl) rfl ?_
        simp only [SeqGo, opsAt_cons, opsAt_nil, List.getElem?_cons, Option.toList_some, List.singleton_append, ↓reduceIte, Nat.reduceEqDiff, Nat.reduceSub]
        go_wp2_with fail
        refine ⟨by (simp only [Sames, Same]; go_simp), ?_⟩
        go_wp2_with (go_at_call 29; refine (rless_any _ _ _ _ _).mono ?_; rintro e9 w9 ⟨he9, hbl⟩; rw [h14] at he9; subst he9; have hbl9 : Below w1.heap.size w1 w9 := bw_next (bw_d1 (Below.refl _ _)) hbl; have g4 := ba.keep hbl9 hB1; have q0 := g4.at_ 0 rfl; have q1 := g4.at_ 1 rfl; have g1 := hb1.keep hbl9 hg1; have k1 : w9.cell? ⟨g, 8, none⟩ = some (.int .i64 life) := g1.at_ 8 rfl; have k2 : w9.cell? ⟨g, 3, none⟩ = some (.int .i64 b2) := g1.at_ 3 rfl)
        refine ⟨by (simp only [Sames, Same]; go_simp), ?_⟩
        go_upto_region 5 with fail
        have g2 := hq1.keep hbl9 hgq1
        have g3 := ht.trans (Turns.of_below hbl9)
        go_quiet ((go_at_call 49; exact Calls.quiet_of_same ((bound_any _ _).mono fun _ _ h => ⟨h.1, h.2.symm⟩)))
        have k0 : w9.cell? ⟨g, 0, none⟩ = some (.pointer (some ⟨gq, 0, none⟩)) := g1.at_ 0 rfl
        go_wp2_with (go_at_call 52; refine (ract_any q gq _ (g2.dr nq) hql).mono ?_; rintro e2 w2 ⟨rfl, hp2, o2⟩; have hb2 := (g1.dr nq).only o2 hne; have f2 := hb2.free 9; have f3 := hb2.free 10; have hBp : B ≠ gq := (by omega); have hb3 := (g4.dr nq).only o2 hBp; have q3 := hb3.at_ 0 rfl; have q4 := hb3.at_ 1 rfl; have q5 := hb2.at_ 9 rfl; have q6 := hb2.at_ 10 rfl)
        all_goals go_ret
        all_goals ((try rw [hr]); (try rw [ha]))
        all_goals exact ⟨rfl, (hb2.set 9 _).set 10 _, (hp2.other (Ne.symm hne) _).other (Ne.symm hne) _, (((g3.dN nq).trans (Turns.of_only o2 (.inr rfl))).trans (Turns.set _ _ _ _ (.inl rfl))).trans (Turns.set _ _ _ _ (.inl rfl))⟩
      · have hr : CellM.raise ⟨life, pl, pn, ml, mp, made⟩ a b e = (⟨life, pl, pn, ml, mp, made⟩, e) := by simp only [CellM.raise]; rw [if_neg h1c, if_neg h13, if_neg c4, if_pos c5]
        clear h13
        have h20 : (e == 0) = false := by simpa using c5
        have h21 : (e != 0) = true := by simpa using c5
        refine region_plan ⟨[0, 1, 3, 7, 0, 31, 63, 127, 255, 511, 255, 1279, 3327, 7423, 16383, 32767], [5], [0, 0, 0, 0, 0, 0, 1, 1, 1, 1, 1, 1, 1, 1, 1, 1]⟩
          [⟨[0, 1, 2, 3, 4], [1, 2, 3, 4], some 5⟩, ⟨[6, 7, 8, 9, 10, 11, 12, 13, 14, 15], [6, 8, 9, 11, 12, 13, 14], none⟩] 51 (by kernel_rfl) (by kernel_rfl) (by kernel_rfl) (by kernel_rfl) rfl ?_
        simp only [SeqGo, opsAt_cons, opsAt_nil, List.getElem?_cons, Option.toList_some, List.singleton_append, ↓reduceIte, Nat.reduceEqDiff, Nat.reduceSub]
        go_wp2_with fail
        refine ⟨by (simp only [Sames, Same]; go_simp), ?_⟩
        go_wp2_with (go_at_call 29; refine (rless_any _ _ _ _ _).mono ?_; rintro e9 w9 ⟨he9, hbl⟩; rw [h14] at he9; subst he9; have hbl9 : Below w1.heap.size w1 w9 := bw_next (bw_d1 (Below.refl _ _)) hbl; have g4 := ba.keep hbl9 hB1; have q0 := g4.at_ 0 rfl; have q1 := g4.at_ 1 rfl; have g1 := hb1.keep hbl9 hg1; have k1 : w9.cell? ⟨g, 8, none⟩ = some (.int .i64 life) := g1.at_ 8 rfl; have k2 : w9.cell? ⟨g, 3, none⟩ = some (.int .i64 b2) := g1.at_ 3 rfl)
        refine ⟨by (simp only [Sames, Same]; go_simp), ?_⟩
        go_upto_region 5 with fail
        have g2 := hq1.keep hbl9 hgq1
        have g3 := ht.trans (Turns.of_below hbl9)
        go_quiet ((go_at_call 49; exact Calls.quiet_of_same ((bound_any _ _).mono fun _ _ h => ⟨h.1, h.2.symm⟩)))
        have k0 : w9.cell? ⟨g, 0, none⟩ = some (.pointer (some ⟨gq, 0, none⟩)) := g1.at_ 0 rfl
        go_wp2_with (go_at_call 52; refine (ract_any q gq _ (g2.dr nq) hql).mono ?_; rintro e2 w2 ⟨rfl, hp2, o2⟩; have hb2 := (g1.dr nq).only o2 hne)
        all_goals go_ret
        all_goals ((try rw [hr]); (try rw [ha]))
        all_goals exact ⟨rfl, hb2, hp2, (g3.dN nq).trans (Turns.of_only o2 (.inr rfl))⟩
end Go.Proofs.Ytlgcnnhlbkidmaa
