/-
  An argument of type 'At' (key, counter, nonce), read.
-/
import Derived.Test.YtmjjnaaiakchhaaDoorBegin
import Derived.Test.YtmjjnaaiakchhaaDoorTab
namespace Go.Proofs.YtmjjnaaiakchhaaDoor
open Go.ChangeShapes Go.WideShapes Go.ChangeAt Go.RowKit

theorem cellsAt : Tryd.prog.cellsOf 26 = 45 := by kernel_rfl
theorem cells32 : Tryd.prog.cellsOf 22 = 32 := by kernel_rfl
theorem cells12 : Tryd.prog.cellsOf 24 = 12 := by kernel_rfl
theorem cellsU32 : Tryd.prog.cellsOf 23 = 1 := by kernel_rfl
theorem cellsU8 : Tryd.prog.cellsOf 5 = 1 := by kernel_rfl

theorem isB_of_wf {zs : List Int} (h : ∀ z ∈ zs, (Lit.int .u8 z).wf = true) : IsB zs := by
  intro z hz
  have := h z hz
  simp [Lit.wf] at this
  have e1 : IntKind.u8.min = 0 := rfl
  have e2 : IntKind.u8.max = 255 := rfl
  omega

theorem at_of_trod {H : Type} {enc : TypeId × Value → H} {w : World} {base : Nat} {sp : Nat → Bool} {held : Bool} {fuel : Nat} {cs : List Value} {x : DataW H × List MemPlace}
    (h : DataW.trod enc Tryd.prog w base sp held fuel 26 cs = some x) :
    ∃ key c nonce, key.length = 32 ∧ nonce.length = 12 ∧ IsB key ∧ IsB nonce ∧ (0 ≤ c ∧ c < 4294967296) ∧ cs = atV key c nonce := by
  obtain ⟨xs, n, _, _, hl, hxl, hf⟩ := DataW.trod_struct Tryd.underlying26 h
  have h0 := hf 0 _ rfl
  have h1 := hf 1 _ rfl
  have h2 := hf 2 _ rfl
  rw [cellsAt] at hl
  match xs, hxl with
  | [x0, x1, x2], _ =>
    obtain ⟨key, hk, e0, w0⟩ := trod_arr_ints Tryd.underlying22 Tryd.underlying5 cellsU8 cells32 h0
    obtain ⟨c, e1, _, w1⟩ := DataW.trod_int Tryd.underlying23 h1
    obtain ⟨nonce, hn, e2, w2⟩ := trod_arr_ints Tryd.underlying24 Tryd.underlying5 cellsU8 cells12 h2
    refine ⟨key, c, nonce, hk, hn, isB_of_wf w0, isB_of_wf w2, ?_, ?_⟩
    · simp [Lit.wf] at w1
      have q1 : IntKind.u32.min = 0 := rfl
      have q2 : IntKind.u32.max = 4294967295 := rfl
      omega
    · have e0' : (cs.drop 0).take (Tryd.prog.cellsOf 22) = bs key := e0
      have e1' : (cs.drop 32).take (Tryd.prog.cellsOf 23) = [.int .u32 c] := e1
      have e2' : (cs.drop 33).take (Tryd.prog.cellsOf 24) = bs nonce := e2
      rw [cells32] at e0'
      rw [cellsU32] at e1'
      rw [cells12] at e2'
      have key2 : ∀ (n k : Nat) (l : List Value), (cs.drop n).take k = l → cs.drop n = l ++ cs.drop (n + k) := by
        intro n k l hl
        rw [← hl, ← List.drop_drop, List.take_append_drop]
      have e : cs = cs.drop 0 := by simp
      rw [e, key2 0 32 _ e0', key2 32 1 _ e1', key2 33 12 _ e2', List.drop_of_length_le (by omega)]
      simp [atV]
end Go.Proofs.YtmjjnaaiakchhaaDoor
