/-
  intagliolaw10.awake: the example of the cell comes out.
-/
import Derived.Test.YtlgcnnhlbkidmaaCellS
namespace Go.Proofs.Ytlgcnnhlbkidmaa
open Go.RowKit

set_option maxHeartbeats 1000000 in
theorem awake10_any (w : World) : Calls Try.prog 30 #[] w fun e w' => e = .returned (.bool true) ∧ Below w.heap.size w w' := by
  obtain ⟨B, hB⟩ : ∃ B, w.heap.size = B := ⟨_, rfl⟩
  go_enter Try.func30, Try.ntmps30
  go_wp2_with (first
    | (go_at_call 42; refine (plug_any _).mono ?_; rintro e w1 ⟨rfl, hp1, hb1, hs1⟩; rw [hB] at hp1 hb1 hs1 ⊢)
    | (go_at_call 41; refine (cellnew_any _ _ _ _ _ _ _ _ _ (.inr ⟨_, rfl⟩)).mono ?_; rintro e w2 ⟨g, rfl, hg2, hc2, hb2⟩;
       have hp2 := hp1.stay hb2; have hlt2 := hc2.lt; have hltp := hp1.lt; have hne : g ≠ B := (by omega); have hbb2 : Below B w w2 := bw_then hb1 hb2 (by omega))
    | (go_at_call 37; refine (birth_any ⟨0, 0, 0, 1, 1, true⟩ g B Pow.fresh _ hc2 rfl hp2 ⟨by decide, by decide⟩ hne (by decide) (by decide)).mono ?_; rintro e w3 ⟨rfl, hc3', hp3', ht3⟩;
       have hc3 : Blk w3 g (CellM.cells ⟨1, 0, 0, 1, 1, true⟩ (.pointer (some ⟨B, 0, none⟩))) 61 := hc3'; have hp3 : Blk w3 B Pow.fresh.cells 92 := hp3')
    | (go_at_call 37; refine (birth_any ⟨1, 0, 0, 1, 1, true⟩ g B Pow.fresh _ hc3 rfl hp3 ⟨by decide, by decide⟩ hne (by decide) (by decide)).mono ?_; rintro e w4 ⟨rfl, hc4', hp4', ht4⟩;
       have hc4 : Blk w4 g (CellM.cells ⟨1, 0, 0, 1, 1, true⟩ (.pointer (some ⟨B, 0, none⟩))) 61 := hc4'; have hp4 : Blk w4 B Pow.fresh.cells 92 := hp4')
    | (go_at_call 38; refine (raise_any ⟨1, 0, 0, 1, 1, true⟩ _ _ g B Pow.fresh _ hc4 rfl hp4 ⟨by decide, by decide⟩ hne).mono ?_; rintro e w5 ⟨rfl, hc5', hp5', ht5⟩;
       have hc5 : Blk w5 g (CellM.cells ⟨1, 1, 1, 1, 1, true⟩ (.pointer (some ⟨B, 0, none⟩))) 61 := hc5'; have hp5 : Blk w5 B Pow.fresh.cells 92 := hp5')
    | (go_at_call 38; refine (raise_any ⟨1, 1, 1, 1, 1, true⟩ _ _ g B Pow.fresh _ hc5 rfl hp5 ⟨by decide, by decide⟩ hne).mono ?_; rintro e w6 ⟨rfl, hc6', hp6', ht6⟩;
       have hc6 : Blk w6 g (CellM.cells ⟨1, 1, 1, 1, 1, true⟩ (.pointer (some ⟨B, 0, none⟩))) 61 := hc6'; have hp6 : Blk w6 B Pow.fresh.cells 92 := hp6')
    | (go_at_call 38; refine (raise_any ⟨1, 1, 1, 1, 1, true⟩ _ _ g B Pow.fresh _ hc6 rfl hp6 ⟨by decide, by decide⟩ hne).mono ?_; rintro e w7 ⟨rfl, hc7', hp7', ht7⟩))
  all_goals go_ret
  have ht := (((ht3.trans ht4).trans ht5).trans ht6).trans ht7
  have h7 : (CellM.raise ⟨1, 1, 1, 1, 1, true⟩ 1 2 Pow.fresh.act.2).2 = 7 := by decide
  refine ⟨by simp [h7], ?_⟩
  rw [hB]
  exact Turns.below hbb2 ht (by omega) (by intro j hj; omega)
end Go.Proofs.Ytlgcnnhlbkidmaa
