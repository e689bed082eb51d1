/-
  The reference's Clamp and bytes16.
-/
import Derived.Test.YtmjjnaaiakchhaaPolyU
namespace Go.Proofs.Ytmjjnaaiakchhaa
open Go.RowKit

theorem bs_get (xs : List Int) (i : Nat) (h : i < xs.length) : (bs xs)[i]? = some (.int .u8 (xs.getD i 0)) := by simp [bs, List.getD_eq_getElem?_getD, h]
theorem bs_set (xs : List Int) (i : Nat) (y : Int) : (bs xs).set i (.int .u8 y) = bs (xs.set i y) := by simp [bs, List.map_set]
theorem clampL_len (key : List Int) : (clampL key).length = 16 := by simp [clampL]
theorem clampL_get (key : List Int) (i : Nat) (h : i < 16) : (clampL key).getD i 0 = if i % 4 = 3 then key.getD i 0 % 16 else if 0 < i ∧ i % 4 = 0 then key.getD i 0 / 4 * 4 else key.getD i 0 := by
  simp [clampL, List.getD_eq_getElem?_getD, h]
theorem clampL_isB {key : List Int} (hk : IsB key) : IsB (clampL key) := by
  intro z hz
  obtain ⟨i, _, rfl⟩ := List.mem_map.1 hz
  have h := hk.at_ i
  split
  · omega
  · split <;> omega

structure KInv (w wr : World) (B go : Nat) (ks : List Int) (k : Nat) : Prop where
  key : Blk wr B (bs ks) 29
  out : Blk wr go (bs ((clampL ks).take k ++ List.replicate (16 - k) 0)) 5
  b : Below B w wr
  ne : B < go
theorem KInv.step {w wr w' : World} {B go : Nat} {key : List Int} {k : Nat} {y : Int} (h : KInv w wr B go key k) (hk : k < 16) (hy : (clampL key).getD k 0 = y) (ho : Blk w' go (bs (((clampL key).take k ++ List.replicate (16 - k) 0).set k y)) 5) (hon : Only go wr w') : KInv w w' B go key (k + 1) := by
  refine ⟨h.key.only hon (by have := h.ne; omega), ?_, hon.below h.b (by have := h.ne; omega), h.ne⟩
  rwa [← hy, fill_set _ _ _ (clampL_len key) hk] at ho

set_option maxRecDepth 100000 in
set_option maxHeartbeats 4000000 in
theorem clamp_any (w : World) (key : List Int) (hk : key.length = 32) (hkb : IsB key) : Calls Try.prog 32 #[.agg (bs key).toArray] w fun e w' => ∃ go, e = .returned (.slice (some ⟨go, 0, none⟩) 16 16) ∧ Blk w' go (bs (clampL key)) 5 ∧ Below w.heap.size w w' := by
  obtain ⟨i, hi, hz0, hz1, hz2⟩ := info_parts info5
  obtain ⟨B, hB⟩ : ∃ B, w.heap.size = B := ⟨_, rfl⟩
  go_enter Try.func32, Try.ntmps32
  go_upto_region 1 with fail
  have b1 : Blk (w.alloc (.cells (bs key).toArray 29)) B (bs key) 29 := Blk.mk_ _ hB.symm rfl
  have bb : Below B w (w.alloc (.cells (bs key).toArray 29)) := bw_al (Below.refl _ _) (by omega) _
  generalize w.alloc (.cells (bs key).toArray 29) = w1 at *
  have hBw := b1.lt
  go_upto_region 2 with (refine wpList_make_full w1 rfl (.const (.int .i64 16)) (.const (.int .i64 16)) 33 rfl w1.heap.size 5 i _ 1 Try.underlying33 hi hz0 hz1 .i64 .i64 _ _ 16 rfl rfl rfl rfl (by rw [hz2]; decide) (by decide) (Nat.le_refl _) ?_; intro w2 hown hgrow)
  have hb2 : Below w1.heap.size w1 w2 := (Below.refl _ _).grown hgrow (Nat.le_refl _) (fun k h => by cases h)
  have inv0 : KInv w w2 B w1.heap.size key 0 := by
    refine ⟨b1.stay hb2, ?_, bw_then bb hb2 (by omega), hBw⟩
    have h := blk_of_own hown
    rw [show (Value.cells (Value.int IntKind.u8 0)) = #[Value.int IntKind.u8 0] from rfl, Nat.mul_one, toList_madeCells_one] at h
    simpa [bs] using h
  obtain ⟨go, hgo⟩ : ∃ go, w1.heap.size = go := ⟨_, rfl⟩
  rw [hgo] at inv0
  simp only [hgo]
  clear hown hgrow hb2 b1 bb
  go_wp2_with fail
  go_loopw [4] (fun x wr => ∃ k : Nat, k ≤ 16 ∧ x = .int .i64 k ∧ KInv w wr B go key k) (fun x _ => 16 - (intOf x).toNat)
  case atStart => exact ⟨0, by omega, rfl, inv0⟩
  case round =>
    obtain ⟨k, hk16, rfl, inv⟩ := hrel
    by_cases hlt : k < 16
    · obtain ⟨x, hx⟩ : ∃ x, key.getD k 0 = x := ⟨_, rfl⟩
      have hxr := hkb.at_ k
      rw [hx] at hxr
      have e1 : wr.cell? ⟨B, k, none⟩ = some (.int .u8 x) := by rw [← hx]; exact inv.key.at_ k (bs_get key k (by omega))
      have e2 : wr.cell? ⟨go, k, none⟩ = some (.int .u8 0) := by
        refine inv.out.at_ k ?_
        rw [bs, List.getElem?_map, List.getElem?_append_right (by rw [List.length_take, clampL_len]; omega), List.length_take, clampL_len, Nat.min_eq_left (by omega), Nat.sub_self, List.getElem?_replicate, if_pos (by omega)]
        rfl
      have e3 := inv.out.free k
      have hne : B ≠ go := by have := inv.ne; omega
      have hcl := clampL_get key k hlt
      rw [hx] at hcl
      have HI := Lib.hid inv
      have o1 : ∀ y z, Only go wr ((wr.setCell ⟨go, k, none⟩ y).setCell ⟨go, k, none⟩ z) := fun y z => (Only.set wr go k y).trans (Only.set _ go k z)
      have HO := Lib.hid o1
      have B1 := Lib.hid (fun y => by have := inv.out.set k (.int .u8 y); rwa [bs_set] at this)
      have B2 := Lib.hid (fun y z => by have := (inv.out.set k (.int .u8 y)).set k (.int .u8 z); rwa [List.set_set, bs_set] at this)
      clear inv inv0 hx o1
      rcases (show k % 4 = 3 ∨ (0 < k ∧ k % 4 = 0) ∨ (¬ k % 4 = 3 ∧ ¬ (0 < k ∧ k % 4 = 0)) by omega) with hm | hm | hm
      · rw [if_pos hm] at hcl
        have hmi : (k : Int) % 4 = 3 := by omega
        have HCL := Lib.hid (fun _ : Unit => hcl)
        clear hcl
        go_wp2_with fail
        go_roundw
        case rel => exact ⟨k + 1, by omega, by go_num, HI.out.step hlt (HCL.out ()) (B2.out _ _) (HO.out _ _)⟩
        case measure => simp [intOf]; omega
      · rw [if_neg (by omega), if_pos hm] at hcl
        have hmi : (k : Int) % 4 = 0 := by omega
        have hk0 : (0 : Int) < (k : Int) := by omega
        have HCL := Lib.hid (fun _ : Unit => hcl)
        clear hcl
        go_wp2_with fail
        go_roundw
        case rel => exact ⟨k + 1, by omega, by go_num, HI.out.step hlt (HCL.out ()) (B2.out _ _) (HO.out _ _)⟩
        case measure => simp [intOf]; omega
      · rw [if_neg hm.1, if_neg hm.2] at hcl
        obtain ⟨m, hm4⟩ : ∃ m, k % 4 = m := ⟨_, rfl⟩
        have hmi : (k : Int) % 4 = (m : Int) := by omega
        have hm3 : ¬ (m : Int) = 3 := by omega
        have HCL := Lib.hid (fun _ : Unit => hcl)
        clear hcl
        by_cases hk0 : (0 : Int) < (k : Int)
        · have hm0 : ¬ (m : Int) = 0 := by omega
          clear hm hm4
          go_wp2_with fail
          go_roundw
          case rel => exact ⟨k + 1, by omega, by go_num, HI.out.step hlt (HCL.out ()) (B1.out _) (Only.set wr go k _)⟩
          case measure => simp [intOf]; omega
        · clear hm hm4
          go_wp2_with fail
          go_roundw
          case rel => exact ⟨k + 1, by omega, by go_num, HI.out.step hlt (HCL.out ()) (B1.out _) (Only.set wr go k _)⟩
          case measure => simp [intOf]; omega
    · obtain rfl : k = 16 := by omega
      go_wp2_with fail
      all_goals go_ret
      refine ⟨go, rfl, ?_, by rw [hB]; exact inv.b⟩
      have := inv.out
      rwa [List.take_of_length_le (by rw [clampL_len]; exact Nat.le_refl _), Nat.sub_self, List.replicate_zero, List.append_nil] at this

structure OInv (w wr : World) (go : Nat) (xs : List Int) (k : Nat) : Prop where
  out : Blk wr go (bs (xs.take k ++ List.replicate (16 - k) 0)) 35
  b : Below w.heap.size w wr

set_option maxRecDepth 100000 in
set_option maxHeartbeats 4000000 in
theorem bytes16_any (w : World) (u : Value) (xs : List Int) (hu : Num w u xs) : Calls Try.prog 36 #[u] w fun e w' => e = .returned (.agg (bs (xs.take 16)).toArray) ∧ Below w.heap.size w w' := by
  obtain ⟨bu, ou, cu, rfl, hbu, hu1, hu2, hu3⟩ := hu.rd.cells (by rw [ni_len, hu.len]; decide)
  rw [ni_len, hu.len] at hu1 ⊢
  have HU := Lib.hid hu
  have HU3 := Lib.hid hu3
  clear hu hu3
  obtain ⟨B, hB⟩ : ∃ B, w.heap.size = B := ⟨_, rfl⟩
  go_enter Try.func36, Try.ntmps36
  go_upto_region 2 with fail
  change Code.wp _ _ _ _ ((w.alloc (.cells (bs (List.replicate 16 0)).toArray 35)).alloc (.cells (bs (List.replicate 16 0)).toArray 35))
  have b0 : Blk ((w.alloc (.cells (bs (List.replicate 16 0)).toArray 35)).alloc (.cells (bs (List.replicate 16 0)).toArray 35)) B (bs (List.replicate 16 0)) 35 := (Blk.mk_ _ hB.symm rfl).al _
  have b1 : Blk ((w.alloc (.cells (bs (List.replicate 16 0)).toArray 35)).alloc (.cells (bs (List.replicate 16 0)).toArray 35)) (B + 1) (bs (List.replicate 16 0)) 35 := Blk.mk_ _ (by simp [hB]) rfl
  have bb : Below B w ((w.alloc (.cells (bs (List.replicate 16 0)).toArray 35)).alloc (.cells (bs (List.replicate 16 0)).toArray 35)) := bw_al (bw_al (Below.refl _ _) (by omega) _) (by simp; omega) _
  generalize ((w.alloc (.cells (bs (List.replicate 16 0)).toArray 35)).alloc (.cells (bs (List.replicate 16 0)).toArray 35)) = w1 at *
  have inv0 : OInv w w1 (B + 1) xs 0 := ⟨by simpa using b1, by rw [hB]; exact bb⟩
  have HB0 := Lib.hid b0
  clear b0 b1 bb
  go_wp2_with fail
  go_loopw [4] (fun x wr => ∃ k : Nat, k ≤ 16 ∧ x = .int .i64 k ∧ OInv w wr (B + 1) xs k ∧ Blk wr B (bs (List.replicate 16 0)) 35) (fun x _ => 16 - (intOf x).toNat)
  case atStart => exact ⟨0, by omega, rfl, inv0, HB0.out⟩
  case round =>
    obtain ⟨k, hk16, rfl, inv, hb0⟩ := hrel
    by_cases hlt : k < 16
    · obtain ⟨x, hx⟩ : ∃ x, xs.getD k 0 = x := ⟨_, rfl⟩
      have hxr := HU.out.isB.at_ k
      rw [hx] at hxr
      have e1 : wr.cell? ⟨bu, ou + k, none⟩ = some (.int .i64 x) := by rw [← hx]; exact HU3.out wr inv.b k _ (ni_get xs k (by rw [HU.out.len]; omega))
      have e2 : wr.cell? ⟨B + 1, k, none⟩ = some (.int .u8 0) := by
        refine inv.out.at_ k ?_
        rw [bs, List.getElem?_map, List.getElem?_append_right (by rw [List.length_take, HU.out.len]; omega), List.length_take, HU.out.len, Nat.min_eq_left (by omega), Nat.sub_self, List.getElem?_replicate, if_pos (by omega)]
        rfl
      have e3 := inv.out.free k
      have e4 : (xs.take k ++ List.replicate (16 - k) 0).set k x = xs.take (k + 1) ++ List.replicate (16 - (k + 1)) 0 := by
        have h1 := take_snoc xs k (by rw [HU.out.len]; omega)
        have hti : (xs.take k).length = k := by rw [List.length_take, HU.out.len]; omega
        rw [List.set_append_right _ _ (by omega), hti, Nat.sub_self, show 16 - k = (16 - (k + 1)) + 1 by omega, List.replicate_succ, List.set_cons_zero, h1, hx]
        simp
      have i2 : OInv w (wr.setCell ⟨B + 1, k, none⟩ (.int .u8 x)) (B + 1) xs (k + 1) ∧ Blk (wr.setCell ⟨B + 1, k, none⟩ (.int .u8 x)) B (bs (List.replicate 16 0)) 35 := by
        refine ⟨⟨?_, inv.b.setCell (by show w.heap.size ≤ B + 1; omega) _⟩, hb0.other (by show B ≠ B + 1; omega) _⟩
        have := inv.out.set k (.int .u8 x)
        rwa [bs_set, e4] at this
      have HI := Lib.hid i2
      clear inv hb0 i2 e4 hx inv0
      go_wp2_with fail
      go_roundw
      case rel => exact ⟨k + 1, by omega, by go_num, HI.out⟩
      case measure => simp [intOf]; omega
    · obtain rfl : k = 16 := by omega
      have ho := inv.out
      rw [Nat.sub_self, List.replicate_zero, List.append_nil] at ho
      have hlen : (bs (xs.take 16)).length = 16 := by rw [bs_len, List.length_take, HU.out.len]; rfl
      go_wp2_with (first
        | (refine wp_load_blk rfl 35 (.tmp 3) rfl rfl ho Try.underlying35 rfl (n := 16) (by kernel_rfl) hlen ?_)
        | (refine wp_store_blk rfl 35 (.tmp 2) (.tmp 16) rfl rfl rfl hb0 (bs_one _) (by rw [hlen]; rfl) (n := 16) (by kernel_rfl) hlen ?_; intro w' hb hon))
      refine ret_blk rfl rfl hb Try.underlying35 rfl (n := 16) (by kernel_rfl) hlen rfl ?_
      exact ⟨rfl, hon.below inv.b (by omega)⟩
end Go.Proofs.Ytmjjnaaiakchhaa
