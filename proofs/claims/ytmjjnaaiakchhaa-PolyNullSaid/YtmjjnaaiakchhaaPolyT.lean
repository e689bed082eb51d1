/-
  The reference's product.
-/
import Derived.Test.YtmjjnaaiakchhaaPolyN
import Derived.Test.YtmjjnaaiakchhaaTurns
import Derived.RegionTactic
import Derived.BigRegion
import Derived.OwnWalk
namespace Go.Proofs.Ytmjjnaaiakchhaa
open Go.RowKit

theorem own_of_blk {w : World} {g base : Nat} {cs : List Value} {e : TypeId} (h : Blk w g cs e) (hb : base ≤ g) (hm : cs.length ≤ 9223372036854775807) : w.ownsRow base e 1 (.slice (some ⟨g, 0, none⟩) cs.length cs.length) cs.length cs :=
  ⟨by simp, .inr ⟨g, cs.length, cs.toArray, rfl, hb, h, Nat.le_refl _, by unfold maxLen; omega, by simp, by simp⟩⟩
theorem blk_of_own {w : World} {base n : Nat} {e : TypeId} {xs : List Value} {g : Nat} (h : w.ownsRow base e 1 (.slice (some ⟨g, 0, none⟩) n n) n xs) : Blk w g xs e := by
  have hl := h.1
  rcases h.2 with ⟨h1, _⟩ | ⟨g', cap, cur, h1, _, hg, hn, hc, hs, ht⟩
  · cases h1
  · cases h1
    unfold Blk
    rw [hg]
    congr 2
    apply Array.toList_inj.1
    rw [← ht, List.take_of_length_le (by simp [hs])]
theorem ni_get (xs : List Int) (i : Nat) (h : i < xs.length) : (ni xs)[i]? = some (.int .i64 (xs.getD i 0)) := by simp [ni, List.getD_eq_getElem?_getD, h]
theorem ni_set (xs : List Int) (i : Nat) (y : Int) : (ni xs).set i (.int .i64 y) = ni (xs.set i y) := by simp [ni, List.map_set]
theorem ni_one (xs : List Int) : ∀ y ∈ ni xs, y.oneCell' = true := by
  intro y hy
  obtain ⟨x, _, rfl⟩ := List.mem_map.1 hy
  rfl
theorem Rd.cells {w : World} {v : Value} {xs : List Value} (h : Rd w v xs) (hl : 0 < xs.length) : ∃ b o c, v = .slice (some ⟨b, o, none⟩) xs.length c ∧ b < w.heap.size ∧ xs.length ≤ c ∧ c ≤ 9223372036854775807 ∧ ∀ w', Below w.heap.size w w' → ∀ j x, xs[j]? = some x → w'.cell? ⟨b, o + j, none⟩ = some x := by
  obtain ⟨A, c, rfl, h1, h2, _, h3⟩ := h
  rcases h3 with h3 | ⟨b, o, rfl, h3⟩
  · rw [h3] at hl; simp at hl
  · have hb := World.block_lt_of_cell? w _ (h3 0 hl)
    refine ⟨b, o, c, rfl, hb, h1, by unfold maxLen at h2; omega, fun w' hw j x hj => ?_⟩
    obtain ⟨hlt, rfl⟩ := List.getElem?_eq_some_iff.1 hj
    exact (hw.cell (p := ⟨b, o + j, none⟩) hb).trans (h3 j hlt)

structure TInv (w wr : World) (go : Nat) (zs : List Int) (m N : Int) : Prop where
  blk : Blk wr go (ni zs) 3
  len : zs.length = 40
  up : Upto m zs
  val : leV zs = N
  b : Below w.heap.size w wr

set_option maxRecDepth 100000 in
set_option maxHeartbeats 2000000 in
theorem times_any (w : World) (u v : Value) (xs ys : List Int) (hu : Num w u xs) (hv : Num w v ys) : Calls Try.prog 34 #[u, v] w (NumRes (leV (xs.take 20) * leV (ys.take 20)) w) := by
  obtain ⟨i, hi, hz0, hz1, hz2⟩ := info_parts info3
  obtain ⟨bu, ou, cu, rfl, hbu, hu1, hu2, hu3⟩ := hu.rd.cells (by rw [ni_len, hu.len]; decide)
  obtain ⟨bv, ov, cv, rfl, hbv, hv1, hv2, hv3⟩ := hv.rd.cells (by rw [ni_len, hv.len]; decide)
  rw [ni_len, hu.len] at hu1 ⊢
  rw [ni_len, hv.len] at hv1 ⊢
  have HU := Lib.hid hu
  have HV := Lib.hid hv
  have HU3 := Lib.hid hu3
  have HV3 := Lib.hid hv3
  clear hu hv hu3 hv3
  go_enter Try.func34, Try.ntmps34
  go_upto_region 2 with (refine wpList_make_full w rfl (.const (.int .i64 40)) (.const (.int .i64 40)) 62 rfl w.heap.size 3 i _ 1 Try.underlying62 hi hz0 hz1 .i64 .i64 _ _ 40 rfl rfl rfl rfl (by rw [hz2]; decide) (by decide) (Nat.le_refl _) ?_; intro w2 hown hgrow)
  have hb2 : Below w.heap.size w w2 := (Below.refl _ _).grown hgrow (Nat.le_refl _) (fun k h => by cases h)
  have hout : Blk w2 w.heap.size (ni (List.replicate 40 0)) 3 := by
    have h := blk_of_own hown
    rw [show (Value.cells (Value.int IntKind.i64 0)) = #[Value.int IntKind.i64 0] from rfl, Nat.mul_one, toList_madeCells_one] at h
    simpa [ni] using h
  obtain ⟨go, hgo⟩ : ∃ go, w.heap.size = go := ⟨_, rfl⟩
  rw [hgo] at hout hbu hbv
  simp only [hgo]
  have inv0 : TInv w w2 go (List.replicate 40 0) 0 0 := ⟨hout, by simp, upto_zeros _ (by decide) _, leV_zeros _, hb2⟩
  clear hown hgrow hb2 hout
  go_wp2_with fail
  go_loopw [6] (fun x wr => ∃ (i : Nat) (zs : List Int), i ≤ 20 ∧ x = .int .i64 i ∧ TInv w wr go zs (i * 1300500) (leV (xs.take i) * leV (ys.take 20))) (fun x _ => 20 - (intOf x).toNat)
  case atStart => exact ⟨0, _, by omega, rfl, by simpa [leV] using inv0⟩
  case round =>
    obtain ⟨i, zs, hi20, rfl, inv⟩ := hrel
    obtain ⟨wo, rfl⟩ : ∃ wo : World, wo = wr := ⟨_, rfl⟩
    by_cases hlt : i < 20
    · obtain ⟨x, hx⟩ : ∃ x, xs.getD i 0 = x := ⟨_, rfl⟩
      have hxr := HU.out.isB.at_ i
      rw [hx] at hxr
      have kx : ∀ w', Below w.heap.size w w' → w'.cell? ⟨bu, ou + i, none⟩ = some (.int .i64 x) := fun w' h => by
        rw [← hx]; exact HU3.out w' h i _ (ni_get xs i (by rw [HU.out.len]; omega))
      have HX := Lib.hid (fun _ : Unit => hx)
      have HINV := Lib.hid inv
      clear hx inv inv0
      go_wp2_with fail
      go_loopw [7] (fun y wr => ∃ (k : Nat) (zs : List Int), k ≤ 20 ∧ y = .int .i64 k ∧ TInv w wr go zs (i * 1300500 + k * 65025) (leV (xs.take i) * leV (ys.take 20) + 256 ^ i * (x * leV (ys.take k)))) (fun y _ => 20 - (intOf y).toNat)
      case atStart => exact ⟨0, zs, by omega, rfl, by simpa [leV] using HINV.out⟩
      case round =>
        obtain ⟨k, zs, hk20, rfl, inv⟩ := hrel
        by_cases hkl : k < 20
        · obtain ⟨y, hy⟩ : ∃ y, ys.getD k 0 = y := ⟨_, rfl⟩
          have hyr := HV.out.isB.at_ k
          rw [hy] at hyr
          have e1 := kx wr inv.b
          have e2 : wr.cell? ⟨bv, ov + k, none⟩ = some (.int .i64 y) := by rw [← hy]; exact HV3.out wr inv.b k _ (ni_get ys k (by rw [HV.out.len]; omega))
          obtain ⟨z, hz⟩ : ∃ z, zs.getD (i + k) 0 = z := ⟨_, rfl⟩
          have hzr := inv.up.at_ (by omega) (i + k)
          rw [hz] at hzr
          have e3 : wr.cell? ⟨go, i + k, none⟩ = some (.int .i64 z) := by rw [← hz]; exact inv.blk.at_ _ (ni_get zs (i + k) (by rw [inv.len]; omega))
          have e4 := inv.blk.free (i + k)
          have hik : (i : Int) + (k : Int) = ((i + k : Nat) : Int) := by omega
          obtain ⟨q, hq⟩ : ∃ q, i + k = q := ⟨_, rfl⟩
          rw [hq] at e3 e4 hik
          have hq40 : q < 40 := by omega
          have hxy : 0 ≤ x * y ∧ x * y ≤ 65025 := ⟨Int.mul_nonneg hxr.1 hyr.1, by
            have h1 : x * y ≤ 255 * y := Int.mul_le_mul_of_nonneg_right hxr.2 hyr.1
            omega⟩
          obtain ⟨p, hp⟩ : ∃ p, x * y = p := ⟨_, rfl⟩
          rw [hp] at hxy
          have hn1 : go ≠ bu := by omega
          have hn2 : go ≠ bv := by omega
          have inv2 : TInv w (wr.setCell ⟨go, q, none⟩ (.int .i64 (z + p))) go (zs.set q (z + p)) (i * 1300500 + (k + 1 : Nat) * 65025) (leV (xs.take i) * leV (ys.take 20) + 256 ^ i * (x * leV (ys.take (k + 1)))) := by
            refine ⟨?_, by rw [List.length_set]; exact inv.len, ?_, ?_, inv.b.setCell (by show w.heap.size ≤ go; omega) _⟩
            · have := inv.blk.set q (.int .i64 (z + p))
              rwa [ni_set] at this
            · exact (inv.up.mono (by omega)).set q (by omega)
            · have h1 := leV_set zs q p (by rw [inv.len]; omega)
              rw [← hq, hz, hq] at h1
              rw [h1, inv.val, leV_snoc ys k (by rw [HV.out.len]; omega), hy, ← hq, Int.pow_add, ← hp]
              rw [Int.mul_add x, Int.mul_add (256 ^ i), Int.add_assoc, Int.mul_assoc (256 ^ i) (256 ^ k), Int.mul_left_comm x (256 ^ k) y]
          have HI2 := Lib.hid inv2
          have hzp : 0 ≤ z + p ∧ z + p ≤ 9223372036854775807 := by omega
          clear inv inv2 hy hz hq
          go_wp2_with fail
          go_region
          go_wp2_with fail
          go_roundw
          case rel => exact ⟨k + 1, _, by omega, by go_num, HI2.out.blk.d1, HI2.out.len, HI2.out.up, HI2.out.val, bw_d1 HI2.out.b⟩
          case measure => simp [intOf]; omega
        · obtain rfl : k = 20 := by omega
          go_wp2_with fail
          refine ⟨⟨i + 1, zs, by omega, by go_num, ⟨inv.blk, inv.len, inv.up.mono (by omega), ?_, inv.b⟩⟩, by simp [intOf]; omega⟩
          rw [inv.val, leV_snoc xs i (by rw [HU.out.len]; omega), HX.out (), Int.add_mul, Int.mul_assoc]
    · obtain rfl : i = 20 := by omega
      have r1 := leV_range (xs := xs.take 20) fun z hz => HU.out.isB z (List.mem_of_mem_take hz)
      have r2 := leV_range (xs := ys.take 20) fun z hz => HV.out.isB z (List.mem_of_mem_take hz)
      rw [List.length_take, HU.out.len] at r1
      rw [List.length_take, HV.out.len] at r2
      have hpr : 0 ≤ leV (xs.take 20) * leV (ys.take 20) ∧ leV (xs.take 20) * leV (ys.take 20) < big40 := by
        refine ⟨Int.mul_nonneg r1.1 r2.1, ?_⟩
        generalize leV (xs.take 20) = a at *
        generalize leV (ys.take 20) = b at *
        have e20 : (256 : Int) ^ (min 20 40) = 1461501637330902918203684832716283019655932542976 := by decide
        rw [e20] at r1 r2
        have h1 : a * b ≤ 1461501637330902918203684832716283019655932542975 * b := Int.mul_le_mul_of_nonneg_right (by omega) r2.1
        unfold big40
        omega
      have hval := inv.val
      obtain ⟨N, hN⟩ : ∃ N, leV (xs.take 20) * leV (ys.take 20) = N := ⟨_, rfl⟩
      have HN := Lib.hid (fun _ : Unit => hN)
      rw [hN] at hpr hval
      have ho : wo.ownsRow w.heap.size 3 1 (.slice (some ⟨go, 0, none⟩) 40 40) 40 (ni zs) := by
        have := own_of_blk (base := w.heap.size) inv.blk (by omega) (by rw [ni_len, inv.len]; decide)
        rwa [ni_len, inv.len] at this
      have CA := Lib.hid (carry_any w wo inv.b _ zs inv.len (inv.up.mono (by decide)) ho)
      have HV2 := Lib.hid (fun _ : Unit => hval)
      clear inv ho r1 r2 hval hN
      go_wp2_with (go_at_call 46; refine CA.out.mono ?_; rintro e w9 ⟨v9, y9, rfl, h1, h2, h3⟩)
      all_goals go_ret
      exact ⟨_, y9, rfl, h1, by rw [h2, HV2.out (), HN.out ()]; exact Int.emod_eq_of_lt hpr.1 hpr.2, h3⟩
end Go.Proofs.Ytmjjnaaiakchhaa
