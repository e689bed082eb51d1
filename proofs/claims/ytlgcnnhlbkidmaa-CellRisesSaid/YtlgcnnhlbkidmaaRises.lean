/-
  The program's cell rises.
-/
import Derived.Test.YtlgcnnhlbkidmaaPlays
namespace Go.Proofs.Ytlgcnnhlbkidmaa
open Go.RowKit

/-- The cell of the program with its power; what holds of it. -/
structure RInv (B : Nat) (w0 wr : World) (gp g : Nat) (b0 b1 b2 b3 b4 b5 b6 : Int) (c : CellM) (p : Pow) : Prop where
  bl : Below B w0 wr
  bB : Blk wr B [.int .i64 b0, .int .i64 b1, .int .i64 b2, .int .i64 b3, .int .i64 b4, .int .i64 b5, .int .i64 b6] 70
  bP : Blk wr gp p.cells 92
  bC : Blk wr g (c.cells (.pointer (some ⟨gp, 0, none⟩))) 61
  ok : p.ok
  pmade : p.made = true
  hmade : c.made = true
  hml : c.ml = bnd b4
  hmp : c.mp = bnd b2
  life0 : 0 ≤ c.life
  life1 : c.life ≤ c.ml
  pn1 : c.pn ≤ c.mp
  pl1 : c.pl ≤ c.life
  far : B < gp ∧ B < g
  ne : g ≠ gp

theorem CellM.birth_rises (c : CellM) (e : Int) : c.life ≤ (c.birth e).1.life ∧ (c.birth e).1.pl = c.pl ∧ (c.birth e).1.pn = c.pn ∧ ((c.birth e).2.2 = 0 ∨ (c.birth e).1 = c) ∧ (c.life ≤ c.ml → (c.birth e).1.life ≤ c.ml) := by
  unfold CellM.birth
  split
  · exact ⟨Int.le_refl _, rfl, rfl, .inr rfl, fun h => h⟩
  · split
    · exact ⟨Int.le_refl _, rfl, rfl, .inr rfl, fun h => h⟩
    · exact ⟨by simp only; omega, rfl, rfl, .inl rfl, fun h => by simp only; omega⟩
theorem CellM.raise_rises (c : CellM) (a b e : Int) : (c.raise a b e).1.life = c.life ∧ lessP (c.raise a b e).1.pl (c.raise a b e).1.pn c.pl c.pn = false ∧ ((c.raise a b e).2 = 0 ∨ (c.raise a b e).1 = c) ∧ (c.pn ≤ c.mp → (c.raise a b e).1.pn ≤ c.mp) ∧ (c.pl ≤ c.life → (c.raise a b e).1.pl ≤ c.life) := by
  have hir : ∀ x y, lessP x y x y = false := fun x y => by simp [lessP]
  unfold CellM.raise
  split
  · exact ⟨rfl, hir _ _, .inr rfl, fun h => h, fun h => h⟩
  split
  · exact ⟨rfl, hir _ _, .inr rfl, fun h => h, fun h => h⟩
  rename_i h1 h2
  split
  · exact ⟨rfl, hir _ _, .inr rfl, fun h => h, fun h => h⟩
  split
  · exact ⟨rfl, hir _ _, .inr rfl, fun h => h, fun h => h⟩
  · refine ⟨rfl, ?_, .inl rfl, fun _ => by simp only; omega, fun _ => by simp only; omega⟩
    simp only
    cases h : lessP a b c.pl c.pn with
    | false => rfl
    | true => exact absurd (.inl ((lessP_turn _ _ _ _).2 (.inr h))) h2

theorem Pow.act_keeps (p : Pow) (h : p.ok) : p.act.1.ok ∧ p.act.1.made = p.made := by
  obtain ⟨h1, h2⟩ := h
  unfold Pow.act
  split
  · exact ⟨⟨h1, h2⟩, rfl⟩
  · split
    · exact ⟨⟨h1, h2⟩, rfl⟩
    · split
      · rename_i h3 h4 h5
        have h6 : p.left ≠ 0 := fun h => h4 ⟨h5, h⟩
        refine ⟨⟨?_, ?_⟩, rfl⟩ <;> simp only <;> omega
      · exact ⟨⟨h1, h2⟩, rfl⟩
theorem Pow.actIf_keeps (p : Pow) (b : Bool) (h : p.ok) : (p.actIf b).ok ∧ (p.actIf b).made = p.made := by
  unfold Pow.actIf
  split
  · exact p.act_keeps h
  · exact ⟨h, rfl⟩
theorem Pow.fuse_ok (p : Pow) (n : Int) (h : n ≤ 9223372036854775807) : (p.fuse n).ok := by
  simp only [Pow.ok, Pow.fuse]
  split <;> omega

section
variable {B : Nat} {w0 wr w' : World} {gp g : Nat} {b0 b1 b2 b3 b4 b5 b6 : Int} {c c' : CellM} {p p' : Pow}
theorem RInv.stay (h : RInv B w0 wr gp g b0 b1 b2 b3 b4 b5 b6 c p) (hb : Below wr.heap.size wr w') : RInv B w0 w' gp g b0 b1 b2 b3 b4 b5 b6 c p :=
  ⟨bw_then h.bl hb (by have := h.bB.lt; omega), h.bB.stay hb, h.bP.stay hb, h.bC.stay hb, h.ok, h.pmade, h.hmade, h.hml, h.hmp, h.life0, h.life1, h.pn1, h.pl1, h.far, h.ne⟩
theorem RInv.next (h : RInv B w0 wr gp g b0 b1 b2 b3 b4 b5 b6 c p) (h1 : Blk w' g (c'.cells (.pointer (some ⟨gp, 0, none⟩))) 61) (h2 : Blk w' gp p'.cells 92) (h3 : Turns (fun k => k = g ∨ k = gp) wr w')
    (hp : p'.ok ∧ p'.made = p.made) (hk : c'.made = c.made ∧ c'.ml = c.ml ∧ c'.mp = c.mp ∧ 0 ≤ c'.life) (hl : c'.life ≤ c'.ml) (hn : c'.pn ≤ c'.mp) (hq : c'.pl ≤ c'.life) : RInv B w0 w' gp g b0 b1 b2 b3 b4 b5 b6 c' p' := by
  have hne := h.ne
  have hf := h.far
  have l1 := h.bB.lt
  exact ⟨Turns.below h.bl h3 (by omega) (by intro j hj; omega), h.bB.turns h3 (by omega), h2, h1, hp.1, by rw [hp.2, h.pmade], by rw [hk.1, h.hmade], by rw [hk.2.1, h.hml], by rw [hk.2.2.1, h.hmp], hk.2.2.2, hl, hn, hq, hf, hne⟩
theorem RInv.power (h : RInv B w0 wr gp g b0 b1 b2 b3 b4 b5 b6 c p) (h2 : Blk w' gp p'.cells 92) (h3 : Only gp wr w') (hp : p'.ok ∧ p'.made = true) : RInv B w0 w' gp g b0 b1 b2 b3 b4 b5 b6 c p' := by
  have hne := h.ne
  have hf := h.far
  exact ⟨h.bl.trans ⟨h3.os, h3.tape, h3.output, Nat.le_of_eq h3.size.symm, fun k hk => h3.block k (by omega)⟩, h.bB.only h3 (by omega), h2, h.bC.only h3 (by omega), hp.1, hp.2, h.hmade, h.hml, h.hmp, h.life0, h.life1, h.pn1, h.pl1, hf, hne⟩
end
end Go.Proofs.Ytlgcnnhlbkidmaa
