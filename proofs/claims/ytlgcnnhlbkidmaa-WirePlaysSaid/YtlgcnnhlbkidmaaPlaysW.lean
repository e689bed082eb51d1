/-
  A wire stays as it was when a frame that came is written over; the law's small bound on acts.
-/
import Derived.Test.YtlgcnnhlbkidmaaNetS
import Derived.Test.YtlgcnnhlbkidmaaKinds
namespace Go.Proofs.Ytlgcnnhlbkidmaa
open Go.ChangeShapes Go.WideShapes Go.ChangeAt Go.RowKit Go.Conc

theorem Lane.wrote {w w' : World} {own : Nat → Option Spot} {B i : Nat} {cv bv : Value} {l : WayS} (h : Lane w own B i cv bv l) (hs : ∀ b s, own b = some s → ofLane i s → (s.1 = 4 → l.2 ≤ s.2.2) → w'.heap[b]? = w.heap[b]?) : Lane w' own B i cv bv l := by
  obtain ⟨c, buf, s, r, h1, h2, h3, h4, h5⟩ := h.chan
  obtain ⟨vals, b1, b2, b3, b4⟩ := h.bag
  refine ⟨⟨c, buf, s, r, h1, h2, (hs c _ h2 ⟨rfl, show 2 ≤ 2 by decide⟩ (fun e => by simp at e)).trans h3, h4, fun j v hj => (h5 j v hj).keep fun b hb => hs b _ hb ⟨rfl, show 2 ≤ 4 by decide⟩ (fun _ => Nat.le_add_right _ _)⟩, ⟨vals, b1.move fun g off n c e => hs g _ (b2 g ⟨_, _, _, e⟩) ⟨rfl, show 2 ≤ 3 by decide⟩ (fun e => by simp at e), b2, b3, fun j v hj => (b4 j v hj).keep fun b hb => hs b _ hb ⟨rfl, show 2 ≤ 5 by decide⟩ (fun e => by simp at e)⟩, h.le, h.small⟩
/-- What came may be written over. -/
theorem Wire.wrote {w w' : World} {B p : Nat} {own : Nat → Option Spot} {st : List WayS} {T : Nat → Prop} (h : Wire w B p own st) (ht : Turns T w w') (hT : ∀ b s, own b = some s → T b → s.1 = 4 ∧ ∀ l, st[s.2.1]? = some l → s.2.2 < l.2) : Wire w' B p own st := by
  obtain ⟨g, cap, cs, h⟩ := h
  have hk : ∀ b s, own b = some s → s.1 ≠ 4 → w'.heap[b]? = w.heap[b]? := fun b s hb hn => ht.block b (h.dom b s hb).2 (fun hTb => hn (hT b s hb hTb).1)
  refine ⟨g, cap, cs, (hk p _ h.hp (by simp)).trans h.head, h.hp, (hk g _ h.hg (by simp)).trans h.row, h.hg, fun i l hl => ?_, h.le, h.cap, fun b s hb => ⟨(h.dom b s hb).1, Nat.lt_of_lt_of_le (h.dom b s hb).2 ht.size⟩⟩
  obtain ⟨cv, bv, h1, h2, h3⟩ := h.lane i l hl
  refine ⟨cv, bv, h1, h2, h3.wrote fun b s hb hs h4 => ht.block b (h.dom b s hb).2 fun hTb => ?_⟩
  obtain ⟨q1, q2⟩ := hT b s hb hTb
  have := q2 l (by rw [hs.1]; exact hl)
  have := h4 q1
  omega

theorem pieceW {cs : List Value} (n k : Nat) {l : List Value} (h : (cs.drop n).take k = l) : cs.drop n = l ++ cs.drop (n + k) := by
  rw [← h, ← List.drop_drop, List.take_append_drop]
theorem cells_intW : Try.prog.cellsOf 3 = 1 := by kernel_rfl
theorem cells_bytesW : Try.prog.cellsOf 22 = 1 := by kernel_rfl
theorem cells_actW : Try.prog.cellsOf 47 = 4 := by kernel_rfl
/-- A call on a wire. -/
def ActW (w : World) (cs : List Value) : Prop := ∃ kd way fr xs kk, cs = [.int .u8 kd, .int .i64 way, fr, .int .i64 kk] ∧ (0 ≤ kd ∧ kd ≤ 255) ∧ (-9223372036854775808 ≤ way ∧ way ≤ 9223372036854775807) ∧ IsB xs ∧ Rd w fr (bs xs) ∧ (-9223372036854775808 ≤ kk ∧ kk ≤ 9223372036854775807)
theorem actw_of_trod {H : Type} {enc : TypeId × Value → H} {w : World} {base : Nat} {sp : Nat → Bool} {held : Bool} {fuel : Nat} {cs : List Value} {x : DataW H × List MemPlace}
    (h : DataW.trod enc Try.prog w base sp held fuel 47 cs = some x) : ActW w cs := by
  obtain ⟨xs, n, _, _, hl, hxl, hf⟩ := DataW.trod_struct Try.underlying47 h
  have h0 := hf 0 _ rfl
  have h1 := hf 1 _ rfl
  have h2 := hf 2 _ rfl
  have h3 := hf 3 _ rfl
  rw [cells_actW] at hl
  match xs, hxl with
  | [x0, x1, x2, x3], _ =>
    obtain ⟨a0, e0, l0, u0⟩ := int_of_trod Try.underlying5 h0
    obtain ⟨a1, e1, l1, u1⟩ := int_of_trod Try.underlying3 h1
    obtain ⟨fr, ys, e2, hy, hr⟩ := bytes_of_trod h2
    obtain ⟨a3, e3, l3, u3⟩ := int_of_trod Try.underlying3 h3
    refine ⟨a0, a1, fr, ys, a3, ?_, ⟨l0, u0⟩, ⟨l1, u1⟩, hy, hr, ⟨l3, u3⟩⟩
    have e0' : (cs.drop 0).take (Try.prog.cellsOf 5) = [.int .u8 a0] := e0
    rw [cells_u8] at e0'
    have e1' : (cs.drop 1).take (Try.prog.cellsOf 3) = [.int .i64 a1] := e1
    rw [cells_intW] at e1'
    have e2' : (cs.drop 2).take (Try.prog.cellsOf 22) = [fr] := e2
    rw [cells_bytesW] at e2'
    have e3' : (cs.drop 3).take (Try.prog.cellsOf 3) = [.int .i64 a3] := e3
    rw [cells_intW] at e3'
    rw [show cs = cs.drop 0 by simp, pieceW 0 1 e0', pieceW 1 1 e1', pieceW 2 1 e2', pieceW 3 1 e3', List.drop_of_length_le (by omega)]
    rfl
theorem actsw_of_trod {H : Type} {enc : TypeId × Value → H} {w : World} {base : Nat} {sp : Nat → Bool} {held : Bool} {fuel : Nat} {cs : List Value} {x : DataW H × List MemPlace} {t : TypeId} (ht : Try.prog.underlying t = some (.slice 47))
    (h : DataW.trod enc Try.prog w base sp held fuel t cs = some x) : ∃ v n f, cs = [v] ∧ Els w v n 4 f ∧ ∀ i, i < n → ActW w (f i) :=
  els_of_trod (sz := 4) ht cells_actW (by decide) (fun _ _ _ hd => actw_of_trod hd) h
end Go.Proofs.Ytlgcnnhlbkidmaa
