/-
  Both cells, side by side.
-/
import Derived.Test.YtlgcnnhlbkidmaaAwakeC
namespace Go.Proofs.Ytlgcnnhlbkidmaa
open Go.RowKit

/-- The cell of the program and that of the document, with their powers. -/
structure CInv (B : Nat) (w0 wr : World) (gp gq g gx : Nat) (b0 b1 b2 b3 b4 b5 b6 : Int) (c : CellM) (p : Pow) (q : RPow) : Prop where
  bl : Below B w0 wr
  bP : Blk wr gp p.cells 92
  bQ : Blk wr gq q.cells 85
  bC : Blk wr g (c.cells (.pointer (some ⟨gp, 0, none⟩))) 61
  bX : Blk wr gx (rcell gq b0 b1 b2 b3 b4 b5 b6 c) 78
  rel : PowRel p q
  hmade : c.made = true
  hml : c.ml = bnd b4
  hmp : c.mp = bnd b2
  life0 : 0 ≤ c.life
  far : B ≤ gp ∧ B ≤ gq ∧ B ≤ g ∧ B ≤ gx
  ne : gp ≠ gq ∧ g ≠ gp ∧ g ≠ gq ∧ gx ≠ gp ∧ gx ≠ gq ∧ g ≠ gx

theorem Turns.cell {S : Nat → Prop} {w w' : World} (h : Turns S w w') {a : Addr} (hn : ¬ S a.block) {v : Value} (hc : w.cell? a = some v) : w'.cell? a = some v :=
  (World.cell?_of_block (w := w) (h.block a.block (World.block_lt_of_cell? w a hc) hn)).trans hc

theorem CellM.birth_keeps (c : CellM) (e : Int) (h : 0 ≤ c.life) : (c.birth e).1.made = c.made ∧ (c.birth e).1.ml = c.ml ∧ (c.birth e).1.mp = c.mp ∧ 0 ≤ (c.birth e).1.life := by
  unfold CellM.birth
  split
  · exact ⟨rfl, rfl, rfl, h⟩
  · split
    · exact ⟨rfl, rfl, rfl, h⟩
    · exact ⟨rfl, rfl, rfl, by simp only; omega⟩
theorem CellM.raise_keeps (c : CellM) (a b e : Int) (h : 0 ≤ c.life) : (c.raise a b e).1.made = c.made ∧ (c.raise a b e).1.ml = c.ml ∧ (c.raise a b e).1.mp = c.mp ∧ 0 ≤ (c.raise a b e).1.life := by
  unfold CellM.raise
  repeat' split
  all_goals exact ⟨rfl, rfl, rfl, h⟩
theorem PowRel.actIf {p : Pow} {q : RPow} (h : PowRel p q) (b : Bool) : PowRel (p.actIf b) (q.actIf b) := by
  unfold Pow.actIf RPow.actIf
  split
  · exact h.act.1
  · exact h
theorem PowRel.le {p : Pow} {q : RPow} (h : PowRel p q) : q.left ≤ 9223372036854775807 := by
  have h1 := h.ok.2
  cases hb : p.bound with
  | true => rw [h.some hb]; exact h1
  | false => rw [h.none hb]; decide

section
variable {B : Nat} {w0 wr w' w2 : World} {gp gq g gx : Nat} {b0 b1 b2 b3 b4 b5 b6 : Int} {c c' : CellM} {p p' : Pow} {q q' : RPow}
/-- The one behind the other. -/
theorem CInv.next (h : CInv B w0 wr gp gq g gx b0 b1 b2 b3 b4 b5 b6 c p q) (h1 : Blk w' g (c'.cells (.pointer (some ⟨gp, 0, none⟩))) 61) (h2 : Blk w' gp p'.cells 92) (h3 : Turns (fun k => k = g ∨ k = gp) wr w')
    (h4 : Blk w2 gx (rcell gq b0 b1 b2 b3 b4 b5 b6 c') 78) (h5 : Blk w2 gq q'.cells 85) (h6 : Turns (fun k => k = gx ∨ k = gq) w' w2) (hr : PowRel p' q') (hk : c'.made = c.made ∧ c'.ml = c.ml ∧ c'.mp = c.mp ∧ 0 ≤ c'.life) :
    CInv B w0 w2 gp gq g gx b0 b1 b2 b3 b4 b5 b6 c' p' q' := by
  have hne := h.ne
  have hf := h.far
  have l1 := h.bC.lt
  have l2 := h3.size
  refine ⟨?_, h2.turns h6 (by omega), h5, h1.turns h6 (by omega), h4, hr, by rw [hk.1, h.hmade], by rw [hk.2.1, h.hml], by rw [hk.2.2.1, h.hmp], hk.2.2.2, hf, hne⟩
  exact Turns.below (Turns.below h.bl h3 (by omega) (by intro j hj; omega)) h6 (by omega) (by intro j hj; omega)
theorem CInv.stay (h : CInv B w0 wr gp gq g gx b0 b1 b2 b3 b4 b5 b6 c p q) (hb : Below wr.heap.size wr w') : CInv B w0 w' gp gq g gx b0 b1 b2 b3 b4 b5 b6 c p q :=
  ⟨bw_then h.bl hb (by have := h.bC.lt; have := h.far; omega), h.bP.stay hb, h.bQ.stay hb, h.bC.stay hb, h.bX.stay hb, h.rel, h.hmade, h.hml, h.hmp, h.life0, h.far, h.ne⟩
theorem CInv.d1 (h : CInv B w0 wr gp gq g gx b0 b1 b2 b3 b4 b5 b6 c p q) : CInv B w0 wr.drew gp gq g gx b0 b1 b2 b3 b4 b5 b6 c p q :=
  ⟨bw_d1 h.bl, h.bP.d1, h.bQ.d1, h.bC.d1, h.bX.d1, h.rel, h.hmade, h.hml, h.hmp, h.life0, h.far, h.ne⟩
/-- The power alone. -/
theorem CInv.power (h : CInv B w0 wr gp gq g gx b0 b1 b2 b3 b4 b5 b6 c p q) (h1 : Blk w' gp p'.cells 92) (h3 : Only gp wr w')
    (h5 : Blk w2 gq q'.cells 85) (h6 : Only gq w' w2) (hr : PowRel p' q') : CInv B w0 w2 gp gq g gx b0 b1 b2 b3 b4 b5 b6 c p' q' := by
  have hne := h.ne
  have hf := h.far
  exact ⟨(h.bl.trans ⟨h3.os, h3.tape, h3.output, Nat.le_of_eq h3.size.symm, fun k hk => h3.block k (by omega)⟩).trans ⟨h6.os, h6.tape, h6.output, Nat.le_of_eq h6.size.symm, fun k hk => h6.block k (by omega)⟩,
    h1.only h6 (by omega), h5, (h.bC.only h3 (by omega)).only h6 (by omega), (h.bX.only h3 (by omega)).only h6 (by omega), hr, h.hmade, h.hml, h.hmp, h.life0, hf, hne⟩
end
end Go.Proofs.Ytlgcnnhlbkidmaa
