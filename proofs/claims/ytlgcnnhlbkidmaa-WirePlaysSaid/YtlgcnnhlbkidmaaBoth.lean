/-
  Texts one behind the other.
-/
import Derived.Test.YtlgcnnhlbkidmaaBytes
import Derived.Deep.DeepCutAuto
import Derived.Lib.Hide
namespace Go.Proofs.Ytlgcnnhlbkidmaa
open Go.RowKit

theorem both_any (w : World) (u v : Value) (xs ys : List Int) (hu : Rd w u (bs xs)) (hv : Rd w v (bs ys)) (hl : xs.length + ys.length ≤ 140737488355328) :
    Calls Try.prog 73 #[u, v] w fun e w' => NewB (xs ++ ys) w e w' := by
  have HV := Lib.hid hv
  have HU := Lib.hid hu
  clear hv hu
  obtain ⟨B, hB⟩ : ∃ B, w.heap.size = B := ⟨_, rfl⟩
  go_enter Try.func73, Try.ntmps73
  go_upto_region 3 with (at_builtin; refine wp_app (.tmp 6) (.tmp 7) 22 rfl rfl 5 (.int .u8 0) 1 Try.underlying22 info5 rfl B rfl (World.ownsRow_nil _ _ _ _) rfl HU.out (bs_one _) (by decide) (by rw [bs_len]; omega) (by omega) ?_; intro v1 w1 hown1 _ hb1)
  rw [List.nil_append, Nat.zero_add, bs_len] at hown1
  have hv1 := HV.out.stay hb1 (by omega)
  have HO := Lib.hid hown1
  have HB1 := Lib.hid hb1
  have hs1 := hb1.size
  clear hown1 hb1
  go_wp2_with (at_builtin; refine wp_app (.tmp 9) (.tmp 10) 22 rfl rfl 5 (.int .u8 0) 1 Try.underlying22 info5 rfl B rfl HO.out rfl hv1 (bs_one _) (by decide) (by rw [bs_len]; omega) (by omega) ?_; intro v2 w2 hown2 _ hb2)
  go_ret
  rw [← bs_append, bs_len, ← List.length_append] at hown2
  exact ⟨_, rfl, by rw [hB]; exact HB1.out.trans hb2, by rw [hB]; exact hown2⟩
end Go.Proofs.Ytlgcnnhlbkidmaa
