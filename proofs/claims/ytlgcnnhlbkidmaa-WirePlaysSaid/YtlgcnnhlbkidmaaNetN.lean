/-
  The reference's net: New and Send.
-/
import Derived.Test.YtlgcnnhlbkidmaaNet
namespace Go.Proofs.Ytlgcnnhlbkidmaa
open Go.RowKit Go.Conc

theorem info_way : (Try.prog.info? 142).map (fun i => (i.zero, i.size, i.bytes)) = some (some (.agg #[.slice none 0 0, .int .i64 0]), 2, 32) := by kernel_rfl
set_option maxRecDepth 100000 in
set_option maxHeartbeats 2000000 in
theorem newnet_any (w : World) (n : Nat) (h1 : 1 ≤ n) (h2 : n ≤ 64) :
    Calls Try.prog 31 #[.int .i64 n] w fun e w' => ∃ p own, e = .returned (.pointer (some ⟨p, 0, none⟩)) ∧ Net w' w.heap.size p own (List.replicate n ([], 0)) ∧ Below w.heap.size w w' := by
  have q1 : ¬ (n : Int) < 1 := by omega
  have q2 : ¬ (64 : Int) < (n : Int) := by omega
  have q3 : 0 ≤ (n : Int) := by omega
  obtain ⟨i, hi, hz0, hz1, hz2⟩ := info_parts info_way
  go_enter Try.func31, Try.ntmps31
  go_wp2_with (refine wpList_make_full w rfl (.tmp 9) (.tmp 9) 137 rfl w.heap.size 142 i _ 2 Try.underlying137 hi hz0 hz1 .i64 .i64 _ _ n rfl rfl rfl rfl (by rw [hz2]; omega) (by unfold maxLen; omega) (Nat.le_refl _) ?_; intro w2 hown hgrow)
  go_ret
  rcases hown.2 with ⟨h, _⟩ | ⟨g, cap, cur, h, hb, hg, hc1, hc2, hs, ht⟩
  · omega
  have hgl := (Array.getElem?_eq_some_iff.1 hg).1
  simp only [Value.slice.injEq, Option.some.injEq, Addr.mk.injEq] at h
  obtain ⟨⟨rfl, _, _⟩, _, rfl⟩ := h
  have hcs : ∀ j, j < n * 2 → cur.toList[j]? = some (if j % 2 = 0 then .slice none 0 0 else .int .i64 0) := fun j hj => by
    have h1 : (madeCells (Value.agg #[Value.slice none 0 0, Value.int IntKind.i64 0]).cells (n * 2)).toList[j]? = some (if j % 2 = 0 then .slice none 0 0 else .int .i64 0) := by
      rcases Nat.mod_two_eq_zero_or_one j with h | h <;> simp [madeCells, Value.cells, hj, h]
    rw [← ht, List.getElem?_take_of_lt hj] at h1
    exact h1
  refine ⟨w2.heap.size, rfl, ⟨fun b => if b = w2.heap.size then some (0, 0, 0) else if b = w.heap.size then some (1, 0, 0) else none, w.heap.size, cur.toList, ?_⟩, bw_al (Below.grown (Below.refl _ _) hgrow (Nat.le_refl _) (fun q hq => by cases hq)) (by omega) _⟩
  refine ⟨by rw [List.length_replicate]; exact Blk.mk_ _ rfl rfl, by simp, Blk.al (show w2.heap[w.heap.size]? = _ from by rw [hg]) _, by simp only []; rw [if_neg (by omega), if_pos trivial], fun i l hl => ?_, by simpa using h2, fun b s hb => ?_⟩
  · have hil : i < n := by have := (List.getElem?_eq_some_iff.1 hl).1; simpa using this
    obtain rfl : l = ([], 0) := by have := List.mem_of_getElem? hl; simpa using (List.mem_replicate.1 this).2
    refine ⟨.slice none 0 0, by rw [hcs _ (by omega)]; simp, by rw [hcs _ (by omega)]; simp, ⟨⟨[], Part.nil _ _ _, (fun b hb => by obtain ⟨_, _, _, e⟩ := hb; cases e), rfl, fun j v hj => by simp at hj⟩, Nat.le_refl _, Nat.zero_le _⟩⟩
  · have hz : (w2.alloc (.cells #[.slice (some ⟨w.heap.size, 0, none⟩) n n] 139)).heap.size = w2.heap.size + 1 := by simp
    rw [hz]
    split at hb
    · omega
    · split at hb
      · omega
      · cases hb
end Go.Proofs.Ytlgcnnhlbkidmaa
