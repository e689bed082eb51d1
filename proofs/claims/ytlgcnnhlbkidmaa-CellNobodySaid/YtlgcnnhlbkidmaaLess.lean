/-
  Pins: cell.Less, intaglioref10.Less.
-/
import Derived.Test.YtlgcnnhlbkidmaaCmp
namespace Go.Proofs.Ytlgcnnhlbkidmaa
open Go.RowKit

def lessP (a b c d : Int) : Bool := decide (a < c) || (decide (a = c) && decide (b < d))
theorem less_cmp (a b c d : Int) : decide ((if cmpI a c = 0 then cmpI b d else cmpI a c) < 0) = lessP a b c d := by
  unfold cmpI lessP
  rcases Int.lt_trichotomy a c with h | h | h
  · simp [h]
  · subst h
    simp
    by_cases h2 : b < d
    · simp [h2]
    · by_cases h3 : d < b <;> simp [h2, h3]
  · have h1 : ¬ a < c := by omega
    have h2 : ¬ a = c := by omega
    simp [h, h1, h2]

set_option maxRecDepth 8000 in
set_option maxHeartbeats 1000000 in
theorem less_any (a b c d : Int) (w : World) : Calls Try.prog 28 #[.agg #[.int .i64 a, .int .i64 b], .agg #[.int .i64 c, .int .i64 d]] w fun e w' => e = .returned (.bool (lessP a b c d)) ∧ Below w.heap.size w w' := by
  obtain ⟨B, hB⟩ : ∃ B, w.heap.size = B := ⟨_, rfl⟩
  go_enter Try.func28, Try.ntmps28
  go_upto_region 1 with fail
  have b2 : Blk ((w.alloc (.cells #[.int .i64 a, .int .i64 b] 39)).alloc (.cells #[.int .i64 c, .int .i64 d] 39)) B [.int .i64 a, .int .i64 b] 39 := (Blk.mk_ _ hB.symm rfl).al _
  have b3 : Blk ((w.alloc (.cells #[.int .i64 a, .int .i64 b] 39)).alloc (.cells #[.int .i64 c, .int .i64 d] 39)) (B + 1) [.int .i64 c, .int .i64 d] 39 := Blk.mk_ _ (by simp [hB]) rfl
  have bb : Below B w ((w.alloc (.cells #[.int .i64 a, .int .i64 b] 39)).alloc (.cells #[.int .i64 c, .int .i64 d] 39)) := bw_al (bw_al (Below.refl _ _) (by omega) _) (by simp; omega) _
  generalize ((w.alloc (.cells #[.int .i64 a, .int .i64 b] 39)).alloc (.cells #[.int .i64 c, .int .i64 d] 39)) = w1 at *
  refine region_draws [(5, ?v5), (6, ?v6), (7, ?v7), (8, ?v8), (10, ?v10), (11, ?v11), (12, ?v12), (13, ?v13), (17, .bool (lessP a b c d)), (4, .bool (lessP a b c d))] [9, 14, 15, 16]
    (fun L T wr => Blk wr B [.int .i64 a, .int .i64 b] 39 ∧ Blk wr (B + 1) [.int .i64 c, .int .i64 d] 39 ∧ Below B w wr ∧ (L 4 = true → T 9 = .int .i64 (cmpI a c)) ∧ (L 9 = true → T 14 = .int .i64 (cmpI b d)) ∧
      (L 10 = true → Rd wr (T 15) [.int .i64 (cmpI a c), .int .i64 (cmpI b d)]) ∧ (L 11 = true → T 16 = .int .i64 (if cmpI a c = 0 then cmpI b d else cmpI a c)))
    (fun _ => undef) (by kernel_rfl) (by kernel_rfl) 18 rfl (by kernel_rfl) ?g0 ?hops ?hend
  case g0 => exact ⟨b2.d1, b3.d1, bw_d1 bb, (fun h => by simp at h), (fun h => by simp at h), (fun h => by simp at h), (fun h => by simp at h)⟩
  case hops =>
    simp only [AllFrom]
    refine ⟨?_, ?_, ?_, ?_, ?_, ?_, ?_, ?_, ?_, ?_, ?_, ?_, ?_, ?_, trivial⟩
    · (intro L T w hpre hpost hG; skip; first | exact .inl ⟨rfl, rfl⟩ | (refine .inl ⟨rfl, ?_⟩; simp only [execOp]; go_simp; (try go_ints); (try go_simp); (try rw [if_pos (by omega)]); (first | done | rfl)))
    · (intro L T w hpre hpost hG; have c := hG.1.at_ 0 rfl; first | exact .inl ⟨rfl, rfl⟩ | (refine .inl ⟨rfl, ?_⟩; simp only [execOp]; go_simp; (try go_ints); (try go_simp); (try rw [if_pos (by omega)]); (first | done | rfl)))
    · (intro L T w hpre hpost hG; skip; first | exact .inl ⟨rfl, rfl⟩ | (refine .inl ⟨rfl, ?_⟩; simp only [execOp]; go_simp; (try go_ints); (try go_simp); (try rw [if_pos (by omega)]); (first | done | rfl)))
    · (intro L T w hpre hpost hG; have c := hG.2.1.at_ 0 rfl; first | exact .inl ⟨rfl, rfl⟩ | (refine .inl ⟨rfl, ?_⟩; simp only [execOp]; go_simp; (try go_ints); (try go_simp); (try rw [if_pos (by omega)]); (first | done | rfl)))
    · intro L T w hL hpre hpost hG
      obtain ⟨h1, h2, h3, h4, h5, h6, h7⟩ := hG
      refine .inl ⟨rfl, fun a K hK => ?_⟩
      simp only [execOp]
      go_simp
      refine (compare_any _ _ _).mono ?_
      rintro e w' ⟨rfl, rfl⟩
      refine hK _ _ ⟨h1, h2, h3, fun _ => by simp, fun h => by simpa using h5 (by simpa using h), fun h => by simpa using h6 (by simpa using h), fun h => by simpa using h7 (by simpa using h)⟩
    · (intro L T w hpre hpost hG; skip; first | exact .inl ⟨rfl, rfl⟩ | (refine .inl ⟨rfl, ?_⟩; simp only [execOp]; go_simp; (try go_ints); (try go_simp); (try rw [if_pos (by omega)]); (first | done | rfl)))
    · (intro L T w hpre hpost hG; have c := hG.1.at_ 1 rfl; first | exact .inl ⟨rfl, rfl⟩ | (refine .inl ⟨rfl, ?_⟩; simp only [execOp]; go_simp; (try go_ints); (try go_simp); (try rw [if_pos (by omega)]); (first | done | rfl)))
    · (intro L T w hpre hpost hG; skip; first | exact .inl ⟨rfl, rfl⟩ | (refine .inl ⟨rfl, ?_⟩; simp only [execOp]; go_simp; (try go_ints); (try go_simp); (try rw [if_pos (by omega)]); (first | done | rfl)))
    · (intro L T w hpre hpost hG; have c := hG.2.1.at_ 1 rfl; first | exact .inl ⟨rfl, rfl⟩ | (refine .inl ⟨rfl, ?_⟩; simp only [execOp]; go_simp; (try go_ints); (try go_simp); (try rw [if_pos (by omega)]); (first | done | rfl)))
    · intro L T w hL hpre hpost hG
      obtain ⟨h1, h2, h3, h4, h5, h6, h7⟩ := hG
      refine .inl ⟨rfl, fun a K hK => ?_⟩
      simp only [execOp]
      go_simp
      refine (compare_any _ _ _).mono ?_
      rintro e w' ⟨rfl, rfl⟩
      refine hK _ _ ⟨h1, h2, h3, fun h => by simpa using h4 (by simpa using h), fun _ => by simp, fun h => by simpa using h6 (by simpa using h), fun h => by simpa using h7 (by simpa using h)⟩
    · intro L T w hL hpre hpost hG
      obtain ⟨h1, h2, h3, h4, h5, h6, h7⟩ := hG
      refine .inl ⟨rfl, fun a K hK => ?_⟩
      have t9 := h4 (hpre 4 rfl rfl)
      have t14 := h5 (hpre 9 rfl rfl)
      simp only [execOp]
      go_simp
      have hs := h3.size
      refine hK (.slice (some ⟨w.heap.size, 0, none⟩) 2 2) _ ⟨h1.al _, h2.al _, bw_al h3 (by omega) _, fun h => by simpa using h4 (by simpa using h), fun h => by simpa using h5 (by simpa using h), fun _ => by simpa using Rd.of_blk (Blk.new w [.int .i64 (cmpI _ _), .int .i64 (cmpI _ _)] 3) (by simp), fun h => by simpa using h7 (by simpa using h)⟩
    · intro L T w hL hpre hpost hG
      obtain ⟨h1, h2, h3, h4, h5, h6, h7⟩ := hG
      refine .inl ⟨rfl, fun a K hK => ?_⟩
      have hr := h6 (hpre 10 rfl rfl)
      simp only [execOp]
      go_simp
      refine (or2_any _ _ _ _ hr).mono ?_
      rintro e w' ⟨rfl, rfl⟩
      refine hK _ _ ⟨h1, h2, h3, fun h => by simpa using h4 (by simpa using h), fun h => by simpa using h5 (by simpa using h), fun h => by simpa using h6 (by simpa using h), fun _ => by simp⟩
    · intro L T w hpre hpost hG
      have t16 := hG.2.2.2.2.2.2 (hpre 11 rfl rfl)
      refine .inl ⟨rfl, ?_⟩
      simp only [execOp]
      go_simp
      exact less_cmp a b c d
    · (intro L T w hpre hpost hG; skip; first | exact .inl ⟨rfl, rfl⟩ | (refine .inl ⟨rfl, ?_⟩; simp only [execOp]; go_simp; (try go_ints); (try go_simp); (try rw [if_pos (by omega)]); (first | done | rfl)))
  case hend =>
    intro L T w hall hG
    obtain ⟨h1, h2, h3, h4, h5, h6, h7⟩ := hG
    generalize T 9 = x9 at *
    generalize T 14 = x14 at *
    generalize T 15 = x15 at *
    generalize T 16 = x16 at *
    simp only [fillT, fillP, List.foldl_cons, List.foldl_nil, Act.put]
    go_wp2_with fail
    go_ret
    refine ⟨by simp, by rw [hB]; exact h3⟩

set_option maxHeartbeats 1000000 in
theorem rless_any (a b c d : Int) (w : World) : Calls Try.prog 29 #[.agg #[.int .i64 a, .int .i64 b], .agg #[.int .i64 c, .int .i64 d]] w fun e w' => e = .returned (.bool (lessP a b c d)) ∧ Below w.heap.size w w' := by
  obtain ⟨B, hB⟩ : ∃ B, w.heap.size = B := ⟨_, rfl⟩
  go_enter Try.func29, Try.ntmps29
  go_upto_region 1 with fail
  have b2 : Blk ((w.alloc (.cells #[.int .i64 a, .int .i64 b] 39)).alloc (.cells #[.int .i64 c, .int .i64 d] 39)) B [.int .i64 a, .int .i64 b] 39 := (Blk.mk_ _ hB.symm rfl).al _
  have b3 : Blk ((w.alloc (.cells #[.int .i64 a, .int .i64 b] 39)).alloc (.cells #[.int .i64 c, .int .i64 d] 39)) (B + 1) [.int .i64 c, .int .i64 d] 39 := Blk.mk_ _ (by simp [hB]) rfl
  have bb : Below B w ((w.alloc (.cells #[.int .i64 a, .int .i64 b] 39)).alloc (.cells #[.int .i64 c, .int .i64 d] 39)) := bw_al (bw_al (Below.refl _ _) (by omega) _) (by simp; omega) _
  generalize ((w.alloc (.cells #[.int .i64 a, .int .i64 b] 39)).alloc (.cells #[.int .i64 c, .int .i64 d] 39)) = w1 at *
  have c0 := b2.at_ 0 rfl
  have c1 := b2.at_ 1 rfl
  have c2 := b3.at_ 0 rfl
  have c3 := b3.at_ 1 rfl
  go_wp2_with fail
  all_goals go_ret
  all_goals (refine ⟨?_, by first | exact bb | (rw [hB]; exact bb)⟩)
  all_goals (have e1 : ¬ a < c ∨ a < c := by omega)
  all_goals simp_all [lessP]
end Go.Proofs.Ytlgcnnhlbkidmaa
