/-
  poly's numbers of three words: add.
-/
import Derived.Test.YtmjjnaaiakchhaaPolyM
import Derived.Test.YtmjjnaaiakchhaaSeq
import Derived.Test.YtmjjnaaiakchhaaSlice
import Derived.Laws.Externs
import Derived.Deep.RegionHeld3
import Derived.Deep.DeepCutAuto
namespace Go.Proofs.Ytmjjnaaiakchhaa
open Go.RowKit

def uq (xs : List Int) : List Value := xs.map (Value.int .u64)
theorem uq_len (xs : List Int) : (uq xs).length = xs.length := by simp [uq]
theorem uq_get (xs : List Int) (i : Nat) (h : i < xs.length) : (uq xs)[i]? = some (.int .u64 (xs.getD i 0)) := by simp [uq, List.getD_eq_getElem?_getD, h]
theorem uq_set (xs : List Int) (i : Nat) (y : Int) : (uq xs).set i (.int .u64 y) = uq (xs.set i y) := by simp [uq, List.map_set]
theorem uq_one (xs : List Int) : ∀ y ∈ uq xs, y.oneCell' = true := by
  intro y hy
  obtain ⟨x, _, rfl⟩ := List.mem_map.1 hy
  rfl
/-- Words of 64 bits. -/
def IsW (xs : List Int) : Prop := ∀ x ∈ xs, 0 ≤ x ∧ x ≤ 18446744073709551615
theorem IsW.at_ {xs : List Int} (h : IsW xs) (i : Nat) : 0 ≤ xs.getD i 0 ∧ xs.getD i 0 ≤ 18446744073709551615 := by
  rw [List.getD_eq_getElem?_getD]
  by_cases hi : i < xs.length
  · rw [List.getElem?_eq_getElem hi]; exact h _ (List.getElem_mem hi)
  · rw [List.getElem?_eq_none (by omega)]; exact ⟨Int.le_refl _, by decide⟩
/-- What words are worth. -/
def leW : List Int → Int
  | [] => 0
  | x :: r => x + 18446744073709551616 * leW r

theorem add64_run (x y c : Int) (hx : 0 ≤ x) (hy : 0 ≤ y) (hc0 : 0 ≤ c) (hc : c ≤ 1) (w : World) : (callFunc 41 #[.int .u64 x, .int .u64 y, .int .u64 c]).run Try.prog w =
    .ok (.value (.tuple #[.int .u64 ((x + y + c) % 18446744073709551616), .int .u64 ((x + y + c) / 18446744073709551616)])) w := by
  rw [run_callFunc_extern Try.func41 (by kernel_rfl) (by kernel_rfl) (by kernel_rfl) (e := add64Entry) (by kernel_rfl), run_add64 x y c hx hy hc0 hc]
  rfl

/-! ### add -/
def cyK (a b : List Int) : Nat → Int
  | 0 => 0
  | k + 1 => (a.getD k 0 + b.getD k 0 + cyK a b k) / 18446744073709551616
def adK (a b : List Int) : Nat → List Int
  | 0 => a
  | k + 1 => (adK a b k).set k ((a.getD k 0 + b.getD k 0 + cyK a b k) % 18446744073709551616)
theorem adK_len (a b : List Int) (k : Nat) : (adK a b k).length = a.length := by induction k with | zero => rfl | succ k ih => simp [adK, ih]
theorem adK_get (a b : List Int) (k i : Nat) (h : k ≤ i) : (adK a b k).getD i 0 = a.getD i 0 := by
  induction k with
  | zero => rfl
  | succ k ih =>
    rw [adK, List.getD_eq_getElem?_getD, List.getElem?_set_ne (by omega), ← List.getD_eq_getElem?_getD, ih (by omega)]
theorem cyK_01 {a b : List Int} (ha : IsW a) (hb : IsW b) (k : Nat) : 0 ≤ cyK a b k ∧ cyK a b k ≤ 1 := by
  induction k with
  | zero => exact ⟨Int.le_refl _, by show (0 : Int) ≤ 1; decide⟩
  | succ k ih =>
    have h1 := ha.at_ k
    have h2 := hb.at_ k
    simp only [cyK]
    omega
def addW (a b : List Int) : List Int := adK a b 3
theorem addW_len (a b : List Int) : (addW a b).length = a.length := adK_len a b 3
theorem adK_isW {a b : List Int} (ha : IsW a) (k : Nat) : IsW (adK a b k) := by
  induction k with
  | zero => exact ha
  | succ k ih =>
    intro z hz
    rcases List.mem_or_eq_of_mem_set hz with hz | rfl
    · exact ih z hz
    · omega
theorem addW_val {a b : List Int} (hal : a.length = 3) (hbl : b.length = 3) (ha : IsW a) (hb : IsW b) (h : leW a + leW b < 6277101735386680763835789423207666416102355444464034512896) : leW (addW a b) = leW a + leW b := by
  match a, hal, b, hbl with
  | [a0, a1, a2], _, [b0, b1, b2], _ =>
    have x0 := ha a0 (by simp)
    have x1 := ha a1 (by simp)
    have x2 := ha a2 (by simp)
    have y0 := hb b0 (by simp)
    have y1 := hb b1 (by simp)
    have y2 := hb b2 (by simp)
    simp only [leW] at h
    simp [addW, adK, cyK, leW]
    omega

structure AInv (w wr : World) (B : Nat) (a b : List Int) (k : Nat) : Prop where
  x : Blk wr B (uq (adK a b k)) 49
  y : Blk wr (B + 1) (uq b) 49
  z : Blk wr (B + 1 + 1) (uq [0, 0, 0]) 49
  b : Below B w wr

set_option maxRecDepth 100000 in
set_option maxHeartbeats 4000000 in
theorem add_any (w : World) (a b : List Int) (hal : a.length = 3) (hbl : b.length = 3) (ha : IsW a) (hb : IsW b) :
    Calls Try.prog 28 #[.agg (uq a).toArray, .agg (uq b).toArray] w fun e w' => e = .returned (.agg (uq (addW a b)).toArray) ∧ Below w.heap.size w w' := by
  obtain ⟨B, hB⟩ : ∃ B, w.heap.size = B := ⟨_, rfl⟩
  have HA := Lib.hid hal
  have HB := Lib.hid hbl
  have HWA := Lib.hid ha
  have HWB := Lib.hid hb
  clear hal hbl ha hb
  go_enter Try.func28, Try.ntmps28
  go_upto_region 1 with fail
  change Code.wp _ _ _ _ (((w.alloc (.cells (uq a).toArray 49)).alloc (.cells (uq b).toArray 49)).alloc (.cells (uq [0, 0, 0]).toArray 49))
  have inv0 : AInv w (((w.alloc (.cells (uq a).toArray 49)).alloc (.cells (uq b).toArray 49)).alloc (.cells (uq [0, 0, 0]).toArray 49)) B a b 0 :=
    ⟨((Blk.mk_ _ hB.symm rfl).al _).al _, (Blk.mk_ _ (by simp [hB]) rfl).al _, Blk.mk_ _ (by simp [hB]) rfl, bw_al (bw_al (bw_al (Below.refl _ _) (by omega) _) (by simp; omega) _) (by simp; omega) _⟩
  generalize (((w.alloc (.cells (uq a).toArray 49)).alloc (.cells (uq b).toArray 49)).alloc (.cells (uq [0, 0, 0]).toArray 49)) = w1 at *
  go_wp2_with fail
  go_loopw [5, 7] (fun c x wr => ∃ k : Nat, k ≤ 3 ∧ x = .int .i64 k ∧ c = .int .u64 (cyK a b k) ∧ AInv w wr B a b k) (fun _ x _ => 3 - (intOf x).toNat)
  case atStart => exact ⟨0, by omega, rfl, rfl, inv0⟩
  case round =>
    obtain ⟨k, hk3, rfl, rfl, inv⟩ := hrel
    by_cases hlt : k < 3
    · obtain ⟨x, hx⟩ : ∃ x, a.getD k 0 = x := ⟨_, rfl⟩
      obtain ⟨y, hy⟩ : ∃ y, b.getD k 0 = y := ⟨_, rfl⟩
      obtain ⟨c, hc⟩ : ∃ c, cyK a b k = c := ⟨_, rfl⟩
      have hxr := HWA.out.at_ k
      have hyr := HWB.out.at_ k
      have hcr := cyK_01 HWA.out HWB.out k
      rw [hx] at hxr
      rw [hy] at hyr
      rw [hc] at hcr
      have e1 : wr.cell? ⟨B, k, none⟩ = some (.int .u64 x) := by
        rw [← hx, ← adK_get a b k k (Nat.le_refl _)]
        exact inv.x.at_ k (uq_get _ k (by rw [adK_len, HA.out]; omega))
      have e2 : wr.cell? ⟨B + 1, k, none⟩ = some (.int .u64 y) := by rw [← hy]; exact inv.y.at_ k (uq_get _ k (by rw [HB.out]; omega))
      have e3 := inv.x.free k
      have hA := add64_run x y c hxr.1 hyr.1 hcr.1 hcr.2
      have i2 : AInv w (wr.setCell ⟨B, k, none⟩ (.int .u64 ((x + y + c) % 18446744073709551616))) B a b (k + 1) := by
        refine ⟨?_, inv.y.other (by show B + 1 ≠ B; omega) _, inv.z.other (by show B + 1 + 1 ≠ B; omega) _, inv.b.setCell (Nat.le_refl _) _⟩
        have := inv.x.set k (.int .u64 ((x + y + c) % 18446744073709551616))
        rw [uq_set] at this
        rw [adK, hx, hy, hc]
        exact this
      have HI := Lib.hid i2
      have HCY := Lib.hid (fun _ : Unit => (show cyK a b (k + 1) = (x + y + c) / 18446744073709551616 by rw [cyK, hx, hy, hc]))
      rw [hc]
      clear i2 inv hx hy hc inv0
      go_upto_region 5 with fail
      refine region_plan ⟨[0, 0, 2, 6, 0, 16, 48, 0, 254, 510, 1022, 1022, 2047, 6143, 16383], [8, 13], [0, 0, 0, 0, 0, 0, 0, 0, 0, 1, 1, 1, 1, 1, 2]⟩
        [⟨[0, 1, 2, 3, 4, 5, 6, 7], [2, 3, 5, 6], some 8⟩, ⟨[9, 10, 11, 12], [10, 11, 12], some 13⟩, ⟨[14], [11], none⟩] 25 (by kernel_rfl) (by kernel_rfl) (by kernel_rfl) (by kernel_rfl) rfl ?_
      simp only [SeqGo, opsAt_cons, opsAt_nil, List.getElem?_cons, Option.toList_some, List.singleton_append, ↓reduceIte, Nat.reduceEqDiff, Nat.reduceSub]
      go_wp2_with fail
      refine ⟨by (simp only [Sames, Same]; go_simp), ?_⟩
      go_wp2_with fail
      refine ⟨by (simp only [Sames, Same]; go_simp), ?_⟩
      go_wp2_with fail
      refine ⟨by (simp only [Sames, Same]; go_simp), ?_⟩
      go_wp2_with fail
      go_roundw
      case rel => exact ⟨k + 1, by omega, by go_num, by rw [HCY.out ()], HI.out.x.d1, HI.out.y.d1, HI.out.z.d1, bw_d1 HI.out.b⟩
      case measure => simp [intOf]; omega
    · obtain rfl : k = 3 := by omega
      have hx := inv.x
      have hz := inv.z
      have hlen : (uq (addW a b)).length = 3 := by rw [uq_len, addW_len, HA.out]
      rw [show adK a b 3 = addW a b from rfl] at hx
      have HBB := Lib.hid inv.b
      clear inv inv0
      go_wp2_with (first
        | (refine wp_load_blk rfl 49 (.tmp 2) rfl rfl hx Try.underlying49 rfl (n := 3) (by kernel_rfl) hlen ?_)
        | (refine wp_store_blk rfl 49 (.tmp 4) (.tmp 24) rfl rfl rfl hz (uq_one _) (by rw [hlen]; rfl) (n := 3) (by kernel_rfl) hlen ?_; intro w' hbx hon))
      refine ret_blk rfl rfl hbx Try.underlying49 rfl (n := 3) (by kernel_rfl) hlen rfl ?_
      exact ⟨rfl, by rw [hB]; exact hon.below HBB.out (by omega)⟩
end Go.Proofs.Ytmjjnaaiakchhaa
