/-
  What a call may have turned.
-/
import Derived.Test.YtlgcnnhlbkidmaaBase
namespace Go.Proofs.Ytlgcnnhlbkidmaa
open Go.RowKit

theorem Only.refl (b : Nat) (w : World) : Only b w w := ⟨rfl, rfl, rfl, rfl, fun _ _ => rfl⟩
theorem Only.trans {b : Nat} {w w' w2 : World} (h : Only b w w') (k : Only b w' w2) : Only b w w2 :=
  ⟨k.os.trans h.os, k.tape.trans h.tape, k.output.trans h.output, k.size.trans h.size, fun j hj => (k.block j hj).trans (h.block j hj)⟩

/-- Blocks of S alone may have turned. -/
structure Turns (S : Nat → Prop) (w w' : World) : Prop where
  os : w'.os = w.os
  tape : w'.tape = w.tape
  output : w'.output = w.output
  size : w.heap.size ≤ w'.heap.size
  block : ∀ k, k < w.heap.size → ¬ S k → w'.heap[k]? = w.heap[k]?
theorem Turns.refl (S : Nat → Prop) (w : World) : Turns S w w := ⟨rfl, rfl, rfl, Nat.le_refl _, fun _ _ _ => rfl⟩
theorem Turns.of_below {S : Nat → Prop} {w w' : World} (h : Below w.heap.size w w') : Turns S w w' := ⟨h.os, h.tape, h.output, h.size, fun k hk _ => h.block k hk⟩
theorem Turns.of_only {S : Nat → Prop} {b : Nat} {w w' : World} (h : Only b w w') (hb : S b) : Turns S w w' := ⟨h.os, h.tape, h.output, Nat.le_of_eq h.size.symm, fun k _ hs => h.block k fun e => hs (e ▸ hb)⟩
theorem Turns.trans {S : Nat → Prop} {w w' w2 : World} (h : Turns S w w') (k : Turns S w' w2) : Turns S w w2 :=
  ⟨k.os.trans h.os, k.tape.trans h.tape, k.output.trans h.output, Nat.le_trans h.size k.size, fun j hj hs => (k.block j (Nat.lt_of_lt_of_le hj h.size) hs).trans (h.block j hj hs)⟩
theorem Turns.mono {S S' : Nat → Prop} {w w' : World} (h : Turns S w w') (hs : ∀ k, S k → S' k) : Turns S' w w' := ⟨h.os, h.tape, h.output, h.size, fun j hj hn => h.block j hj fun k => hn (hs j k)⟩
theorem Turns.set {S : Nat → Prop} (w : World) (b i : Nat) (v : Value) (hb : S b) : Turns S w (w.setCell ⟨b, i, none⟩ v) := Turns.of_only (Only.set w b i v) hb
theorem Turns.al {S : Nat → Prop} {w w' : World} (h : Turns S w w') (o : Obj) : Turns S w (w'.alloc o) := h.trans (Turns.of_below (bw_al (Below.refl _ _) (Nat.le_refl _) _))
theorem Turns.d1 {S : Nat → Prop} {w w' : World} (h : Turns S w w') : Turns S w w'.drew := ⟨h.os, h.tape, h.output, h.size, h.block⟩
theorem Turns.dN {S : Nat → Prop} {w w' : World} (h : Turns S w w') (n : Nat) : Turns S w (w'.drewN n) := ⟨h.os, h.tape, h.output, h.size, h.block⟩
theorem Turns.below {S : Nat → Prop} {B : Nat} {w0 w w' : World} (h : Below B w0 w) (k : Turns S w w') (hB : B ≤ w.heap.size) (hs : ∀ j, S j → B ≤ j) : Below B w0 w' :=
  h.trans ⟨k.os, k.tape, k.output, k.size, fun j hj => k.block j (Nat.lt_of_lt_of_le hj hB) fun hS => by have := hs j hS; omega⟩
theorem Blk.turns {S : Nat → Prop} {w w' : World} {c : Nat} {cs : List Value} {t : TypeId} (h : Blk w c cs t) (k : Turns S w w') (hn : ¬ S c) : Blk w' c cs t := (k.block c h.lt hn).trans h

theorem Turns.cell {S : Nat → Prop} {w w' : World} (h : Turns S w w') {a : Addr} (hn : ¬ S a.block) {v : Value} (hc : w.cell? a = some v) : w'.cell? a = some v :=
  (World.cell?_of_block (w := w) (h.block a.block (World.block_lt_of_cell? w a hc) hn)).trans hc

theorem bw_next {w1 W W' : World} (h : Below w1.heap.size w1 W) (k : Below W.heap.size W W') : Below w1.heap.size w1 W' := bw_then h k h.size
end Go.Proofs.Ytlgcnnhlbkidmaa
