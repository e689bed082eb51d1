/-
  The example of the laws on poly.
-/
import Derived.Test.YtmjjnaaiakchhaaPolySum
import Derived.Lib.SlBytesConst
namespace Go.Proofs.Ytmjjnaaiakchhaa
open Go.RowKit

def k1 : List Int := [1, 0, 0, 0, 0, 0, 0, 0, 0, 0, 0, 0, 0, 0, 0, 0, 9, 0, 0, 0, 0, 0, 0, 0, 0, 0, 0, 0, 0, 0, 0, 0]
def k2 : List Int := [0, 0, 0, 0, 0, 0, 0, 0, 0, 0, 0, 0, 0, 0, 0, 0, 0, 0, 0, 0, 7, 0, 0, 0, 0, 0, 0, 0, 0, 0, 0, 0]
def k0 : List Int := List.replicate 32 0
def t1 : List Int := [14, 1, 0, 0, 0, 0, 0, 0, 0, 0, 0, 0, 0, 0, 0, 0]
def t2 : List Int := [0, 0, 0, 0, 7, 0, 0, 0, 0, 0, 0, 0, 0, 0, 0, 0]
theorem tag1 : tagL k1 [5] = t1 := by decide +kernel
theorem tag2 : tagL k2 [97, 110, 121] = t2 := by decide +kernel
theorem bld1 (w : World) : (Instr.build 29 #[(0, .int .u8 1), (16, .int .u8 9)]).run Try.prog w = .ok (.agg (bs k1).toArray) w := run_build w 29 _ _ (by kernel_rfl)
theorem bld2 (w : World) : (Instr.build 29 #[(20, .int .u8 7)]).run Try.prog w = .ok (.agg (bs k2).toArray) w := run_build w 29 _ _ (by kernel_rfl)
theorem bld3 (w : World) : (Instr.build 35 #[(0, .int .u8 14), (1, .int .u8 1)]).run Try.prog w = .ok (.agg (bs t1).toArray) w := run_build w 35 _ _ (by kernel_rfl)
theorem bld4 (w : World) : (Instr.build 35 #[(4, .int .u8 7)]).run Try.prog w = .ok (.agg (bs t2).toArray) w := run_build w 35 _ _ (by kernel_rfl)
theorem wp_built {P : Program} {ops : Array Oper} {rest : List Oper} {o : Oper} {a : Act} {w : World} {Q : Exit → Act → World → Prop} (hgd : o.guard = none) (t : TypeId) (parts : Array (Nat × Operand)) (ho : o.op = .build t parts) {vs : Array (Nat × Value)} (hv : (parts.map fun (i, x) => (i, a.eval x)) = vs) {cs : Array Value}
    (hb : ∀ w, (Instr.build t vs).run P w = .ok (.agg cs) w) (h : wpList P ops Q rest (a.put o.dst (.agg cs)) w) : wpList P ops Q (o :: rest) a w :=
  wpList_plain hgd fun K hK => by
    show o.upon P a K Q ((execOp a.eval o).run P w)
    have : (execOp a.eval o).run P w = .ok (.value (.agg cs)) w := by
      subst hv
      simp [execOp, ho, hb]
    rw [this]
    exact hK _ _ h
theorem isB_k1 : IsB k1 := by
  have : ∀ x ∈ k1, 0 ≤ x ∧ x ≤ 255 := by decide
  exact this
theorem isB_k2 : IsB k2 := by
  have : ∀ x ∈ k2, 0 ≤ x ∧ x ≤ 255 := by decide
  exact this
theorem eq16 (xs ys : List Int) (hx : xs.length = 16) (hy : ys.length = 16) (w : World) : (Op.equalIn 10000 35 (.agg (bs xs).toArray) (.agg (bs ys).toArray)).run Try.prog w = .ok (xs == ys) w := by
  obtain ⟨i, hi, _, hz, _⟩ := info_parts info5
  exact run_eq_ints (P := Try.prog) (w := w) 9998 35 5 16 .u8 xs ys hx hy Try.underlying35 Try.underlying5 i hi hz

theorem rd_frozen (w : World) (xs : List Value) (e : TypeId) (fr : Nat × Nat) (hm : xs.length ≤ 9223372036854775807) : Rd (w.alloc (.cells xs.toArray e fr)) (.slice (some ⟨w.heap.size, 0, none⟩) xs.length xs.length) xs := by
  refine ⟨_, _, rfl, Nat.le_refl _, by unfold maxLen; omega, (fun h => by cases h), .inr ⟨w.heap.size, 0, rfl, fun j hj => ?_⟩⟩
  have h : (w.alloc (.cells xs.toArray e fr)).heap[w.heap.size]? = some (.cells xs.toArray e fr) := heap_alloc_new w _
  generalize w.alloc (.cells xs.toArray e fr) = w2 at *
  simp [World.cell?, h]

set_option maxRecDepth 100000 in
set_option maxHeartbeats 2000000 in
theorem awake03_of (w : World) (T1 T2 : List Int)
    (q1 : ∀ w, (Op.equalIn 10000 35 (.agg (bs T1).toArray) (.agg #[.int .u8 14, .int .u8 1, .int .u8 0, .int .u8 0, .int .u8 0, .int .u8 0, .int .u8 0, .int .u8 0, .int .u8 0, .int .u8 0, .int .u8 0, .int .u8 0, .int .u8 0, .int .u8 0, .int .u8 0, .int .u8 0])).run Try.prog w = .ok true w)
    (q2 : ∀ w, (Op.equalIn 10000 35 (.agg (bs T2).toArray) (.agg #[.int .u8 0, .int .u8 0, .int .u8 0, .int .u8 0, .int .u8 7, .int .u8 0, .int .u8 0, .int .u8 0, .int .u8 0, .int .u8 0, .int .u8 0, .int .u8 0, .int .u8 0, .int .u8 0, .int .u8 0, .int .u8 0])).run Try.prog w = .ok true w)
    (p1 : ∀ w v, Rd w v (bs [5]) → Calls Try.prog 18 #[.agg (bs k1).toArray, v] w fun e w' => e = .returned (.agg (bs T1).toArray) ∧ Below w.heap.size w w')
    (p2 : ∀ w v, Rd w v (bs [97, 110, 121]) → Calls Try.prog 18 #[.agg (bs k2).toArray, v] w fun e w' => e = .returned (.agg (bs T2).toArray) ∧ Below w.heap.size w w') :
    Calls Try.prog 13 #[] w fun e w' => e = .returned (.bool true) ∧ Below w.heap.size w w' := by
  obtain ⟨B, hB⟩ : ∃ B, w.heap.size = B := ⟨_, rfl⟩
  have P1 := Lib.hid p1
  have P2 := Lib.hid p2
  have kc := fun (w : World) (C : Array Value) (n c : Nat) => Lib.run_convert_bytes_const (P := Try.prog) w 33 5 C n c Try.underlying33 Try.underlying5
  clear p1 p2
  go_enter Try.func13, Try.ntmps13
  have tok0 : True := trivial
  go_upto_region 2 with (first
    | (have _t := tok0; refine wp_built rfl 29 #[(0, .const (.int .u8 1)), (16, .const (.int .u8 9))] rfl rfl bld1 ?_; clear tok0)
    | (refine wp_store_blk rfl 29 (.tmp 1) (.tmp 2) rfl rfl rfl (cs' := bs k1) (Blk.mk_ (cs := bs k0) _ hB.symm rfl) (bs_one _) rfl (n := 32) (by kernel_rfl) rfl ?_; intro w1 b0 on0))
  have bb : Below B w w1 := Only.below (bw_al (Below.refl _ _) (by omega) _) on0 (Nat.le_refl _)
  clear on0
  have hB1 := b0.lt
  have tok1 : True := trivial
  go_wp2_with (first
    | (refine wp_load_blk rfl 29 (.tmp 1) rfl rfl b0 Try.underlying29 rfl (n := 32) (by kernel_rfl) rfl ?_)
    | (go_at_call 18; have _t := tok1; refine (P1.out _ _ (Rd.one w1 (.int .u8 5) _)).mono ?_; rintro e w2 ⟨rfl, hb2⟩; have hbl2 : Below w1.heap.size w1 w2 := bw_then (bw_al (Below.refl _ _) (Nat.le_refl _) _) hb2 (by simp); clear hb2 tok1; have tok3 : True := trivial; have tok2 : True := trivial)
    | (have _t := tok3; refine wp_built rfl 35 #[(0, .const (.int .u8 14)), (1, .const (.int .u8 1))] rfl rfl bld3 ?_; clear tok3)
    | (have _t := tok2; refine wp_built rfl 29 #[(20, .const (.int .u8 7))] rfl rfl bld2 ?_; clear tok2)
    | (go_at_call 18; refine (P2.out _ _ (rd_frozen w2 (bs [97, 110, 121]) 5 (3, 4) (by decide))).mono ?_; rintro e w3 ⟨rfl, hb3⟩; have hbl3 : Below w1.heap.size w1 w3 := bw_then (bw_al hbl2 hbl2.size _) hb3 (by have := hbl2.size; simp; omega); clear hb3; have tok4 : True := trivial)
    | (have _t := tok4; refine wp_built rfl 35 #[(4, .const (.int .u8 7))] rfl rfl bld4 ?_; clear tok4))
  all_goals go_ret
  exact ⟨rfl, by rw [hB]; exact bw_then bb hbl3 (by omega)⟩
theorem awake03_any (w : World) : Calls Try.prog 13 #[] w fun e w' => e = .returned (.bool true) ∧ Below w.heap.size w w' :=
  awake03_of w (tagL k1 [5]) (tagL k2 [97, 110, 121])
    (fun w => by
      have h := eq16 (tagL k1 [5]) t1 (tagL_len _ _) rfl w
      rw [tag1] at h ⊢
      exact h)
    (fun w => by
      have h := eq16 (tagL k2 [97, 110, 121]) t2 (tagL_len _ _) rfl w
      rw [tag2] at h ⊢
      exact h)
    (fun w v hd => polysum_any w k1 [5] v rfl isB_k1 hd (by intro z hz; simp at hz; omega) (by decide))
    (fun w v hd => polysum_any w k2 [97, 110, 121] v rfl isB_k2 hd (by intro z hz; simp at hz; omega) (by decide))
end Go.Proofs.Ytmjjnaaiakchhaa
