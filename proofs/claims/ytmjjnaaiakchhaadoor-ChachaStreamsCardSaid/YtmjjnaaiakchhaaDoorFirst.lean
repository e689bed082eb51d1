/-
  chacha.first: a block's numbers ahead of all rounds.
-/
import Derived.Test.YtmjjnaaiakchhaaDoorPackD
namespace Go.Proofs.YtmjjnaaiakchhaaDoor
open Go.RowKit

/-- Numbers of 32 bits as values. -/
def us (xs : List Int) : List Value := xs.map (Value.int .u32)
theorem us_len (xs : List Int) : (us xs).length = xs.length := by simp [us]

def firstK (key : List Int) : Nat → List Int
  | 0 => [1634760805, 857760878, 2036477234, 1797285236, 0, 0, 0, 0, 0, 0, 0, 0, 0, 0, 0, 0]
  | i + 1 => (firstK key i).set (4 + i) (leN key (4 * i) 4)
def firstN (key : List Int) (c : Int) (nonce : List Int) : Nat → List Int
  | 0 => (firstK key 8).set 12 c
  | i + 1 => (firstN key c nonce i).set (13 + i) (leN nonce (4 * i) 4)
theorem firstK_len (key : List Int) (n : Nat) : (firstK key n).length = 16 := by induction n with | zero => rfl | succ n ih => simp [firstK, ih]
theorem firstN_len (key : List Int) (c : Int) (nonce : List Int) (n : Nat) : (firstN key c nonce n).length = 16 := by induction n with | zero => simp [firstN, firstK_len] | succ n ih => simp [firstN, ih]

def z16 : List Int := [0, 0, 0, 0, 0, 0, 0, 0, 0, 0, 0, 0, 0, 0, 0, 0]
/-- What the call's own blocks hold while it runs. -/
structure FirstInv (B : Nat) (w wr : World) (key nonce s : List Int) : Prop where
  k : Blk wr B (bs key) 22
  n : Blk wr (B + 1) (bs nonce) 24
  o : Blk wr (B + 1 + 1) (us z16) 62
  s : Blk wr (B + 1 + 1 + 1) (us s) 62
  b : Below B w wr
theorem us_one (xs : List Int) : ∀ y ∈ us xs, y.oneCell' = true := by
  intro y hy
  obtain ⟨x, _, rfl⟩ := List.mem_map.1 hy
  rfl
theorem us_set (xs : List Int) (i : Nat) (x : Int) : (us xs).set i (.int .u32 x) = us (xs.set i x) := by simp [us, List.map_set]
theorem us_get (xs : List Int) (i : Nat) (h : i < xs.length) : (us xs)[i]? = some (.int .u32 (xs.getD i 0)) := by simp [us, List.getD_eq_getElem?_getD, h]
theorem FirstInv.put {B : Nat} {w wr : World} {key nonce s : List Int} (h : FirstInv B w wr key nonce s) (i : Nat) (x : Int) : FirstInv B w (wr.setCell ⟨B + 1 + 1 + 1, i, none⟩ (.int .u32 x)) key nonce (s.set i x) :=
  ⟨h.k.other (by simp; omega) _, h.n.other (by simp) _, h.o.other (by simp) _, by rw [← us_set]; exact h.s.set i _, bw_set h.b _ _ (by omega) _⟩

set_option maxHeartbeats 1000000 in
theorem first_any (key nonce : List Int) (c : Int) (w : World) (hk : key.length = 32) (hn : nonce.length = 12) (hkb : IsB key) (hnb : IsB nonce) :
    Calls Tryd.prog 34 #[.agg (bs key).toArray, .int .u32 c, .agg (bs nonce).toArray] w fun e w' => e = .returned (.agg (us (firstN key c nonce 3)).toArray) ∧ Below w.heap.size w w' := by
  have HK := Lib.hid hk
  have HN := Lib.hid hn
  clear hk hn
  obtain ⟨B, hB⟩ : ∃ B, w.heap.size = B := ⟨_, rfl⟩
  go_enter Tryd.func34, Tryd.ntmps34
  go_wp2_with fail
  go_loopw [11] (fun i wr => ∃ k : Nat, k ≤ 8 ∧ i = .int .i64 k ∧ FirstInv B w wr key nonce (firstK key k)) (fun i _ => 8 - (intOf i).toNat)
  case atStart =>
    refine ⟨0, by omega, rfl, ?_, ?_, ?_, ?_, ?_⟩
    all_goals subst hB
    all_goals (repeat (first | (with_reducible exact Below.refl _ _) | ((with_reducible refine Blk.mk_ _ ?_ ?_) <;> (first | rfl | (simp; done))) | (with_reducible refine Blk.al ?_ _) | (with_reducible refine bw_al ?_ ?_ _)))
    all_goals (first | rfl | omega | (simp; done) | (simp; omega))
  case round =>
    obtain ⟨k, hk8, rfl, inv⟩ := hrel
    by_cases hlt : k < 8
    · have hr : Rd wr (.slice (some ⟨B, 0, none⟩) 32 32) (bs key) := by
        have := Rd.of_blk inv.k (by rw [bs_len, HK.out]; omega)
        rwa [bs_len, HK.out] at this
      have c1 := inv.s.at_ (4 + k) (us_get _ _ (by rw [firstK_len]; omega))
      have c2 := inv.s.free (4 + k)
      go_wp2_with (go_at_call 48; refine (le32_any _ key _ _ hr hkb (by omega) (by omega)).mono ?_; rintro e w' ⟨rfl, rfl⟩)
      go_roundw
      case rel => exact ⟨k + 1, by omega, by go_num, inv.put (4 + k) _⟩
      case measure => simp [intOf]; omega
    · obtain rfl : k = 8 := by omega
      simp only [Int.cast_ofNat_Int]
      have c1 := inv.s.at_ 12 (us_get _ _ (by rw [firstK_len]; omega))
      have c2 := inv.s.free 12
      have inv1 : FirstInv B w _ key nonce (firstN key c nonce 0) := inv.put 12 c
      go_wp2_with fail
      clear c1 c2 inv
      generalize wr.setCell ⟨B + 1 + 1 + 1, 12, none⟩ (.int .u32 c) = w1 at *
      go_loopw [24] (fun i wr => ∃ k : Nat, k ≤ 3 ∧ i = .int .i64 k ∧ FirstInv B w wr key nonce (firstN key c nonce k)) (fun i _ => 3 - (intOf i).toNat)
      case atStart => exact ⟨0, by omega, rfl, inv1⟩
      case round =>
        obtain ⟨k, hk3, rfl, inv⟩ := hrel
        by_cases hlt : k < 3
        · have hr : Rd wr (.slice (some ⟨B + 1, 0, none⟩) 12 12) (bs nonce) := by
            have := Rd.of_blk inv.n (by rw [bs_len, HN.out]; omega)
            rwa [bs_len, HN.out] at this
          have c1 := inv.s.at_ (13 + k) (us_get _ _ (by rw [firstN_len]; omega))
          have c2 := inv.s.free (13 + k)
          go_wp2_with (go_at_call 48; refine (le32_any _ nonce _ _ hr hnb (by omega) (by omega)).mono ?_; rintro e w' ⟨rfl, rfl⟩)
          go_roundw
          case rel => exact ⟨k + 1, by omega, by go_num, inv.put (13 + k) _⟩
          case measure => simp [intOf]; omega
        · obtain rfl : k = 3 := by omega
          go_wp2_with (first
            | (refine wp_load_blk rfl 62 (.tmp 7) rfl rfl inv.s Tryd.underlying62 rfl (n := 16) (by kernel_rfl) (by rw [us_len, firstN_len]) ?_)
            | (refine wp_store_blk rfl 62 (.tmp 6) (.tmp 35) rfl rfl rfl inv.o (us_one _) (by rw [us_len, us_len, firstN_len]; rfl) (n := 16) (by kernel_rfl) (by rw [us_len, firstN_len]) ?_; intro w' hb ho))
          refine ret_blk rfl rfl hb Tryd.underlying62 rfl (n := 16) (by kernel_rfl) (by rw [us_len, firstN_len]) rfl ?_
          rw [hB]
          exact ⟨rfl, ho.below inv.b (by omega)⟩
end Go.Proofs.YtmjjnaaiakchhaaDoor
