/-
  Plain facts on what is xored.
-/
import Derived.Test.YtmjjnaaiakchhaaDoorXor
import Derived.Laws.BitsAllLaws
namespace Go.Proofs.YtmjjnaaiakchhaaDoor
open Go.RowKit

theorem outK_isB (s was : List Int) (k : Nat) : IsB (outK s was k) := by
  induction k with
  | zero => intro y hy; simp [outK] at hy
  | succ k ih =>
    intro y hy
    rw [outK, List.mem_append] at hy
    rcases hy with hy | hy
    · exact ih y hy
    · exact lowN_isB _ _ y hy
theorem block_isB (key : List Int) (c : Int) (nonce : List Int) : IsB (block key c nonce) := outK_isB _ _ _
theorem ksB_range (key nonce : List Int) (c : Int) (i : Nat) : 0 ≤ ksB key nonce c i ∧ ksB key nonce c i ≤ 255 := (block_isB _ _ _).at_ _
theorem xor_range {x y : Int} (hx : 0 ≤ x ∧ x ≤ 255) (hy : 0 ≤ y ∧ y ≤ 255) : 0 ≤ bits .xor .u8 x y ∧ bits .xor .u8 x y ≤ 255 := by
  rw [u8_xor x y hx.1 (by omega) hy.1 (by omega)]
  have := Nat.xor_lt_two_pow (x := x.toNat) (y := y.toNat) (n := 8) (by omega) (by omega)
  omega
theorem xor_back {x y : Int} (hx : 0 ≤ x ∧ x ≤ 255) (hy : 0 ≤ y ∧ y ≤ 255) : bits .xor .u8 (bits .xor .u8 x y) y = x := by
  have h := xor_range hx hy
  rw [u8_xor _ y h.1 (by omega) hy.1 (by omega), u8_xor x y hx.1 (by omega) hy.1 (by omega), Int.toNat_natCast, Nat.xor_assoc, Nat.xor_self, Nat.xor_zero]
  omega
theorem xorL_isB (key nonce : List Int) (c : Int) (pos : Nat) {xs : List Int} (h : IsB xs) (k : Nat) : IsB (xorL key nonce c pos xs k) := by
  intro z hz
  obtain ⟨i, _, rfl⟩ := List.mem_map.1 hz
  exact xor_range (h.at_ i) (ksB_range _ _ _ _)
theorem xorAll_isB (key nonce : List Int) (c : Int) {xs : List Int} (h : IsB xs) : IsB (xorAll key nonce c xs) := by
  unfold xorAll
  split
  · exact xorL_isB _ _ _ _ h _
  · intro z hz; simp at hz
theorem xorL_get (key nonce : List Int) (c : Int) (pos : Nat) (xs : List Int) (k i : Nat) (h : i < k) : (xorL key nonce c pos xs k).getD i 0 = bits .xor .u8 (xs.getD i 0) (ksB key nonce c (pos + i)) := by
  simp [xorL, List.getD_eq_getElem?_getD, h]
/-- What is xored twice is as it was. -/
theorem xorL_back (key nonce : List Int) (c : Int) (pos : Nat) {xs : List Int} (h : IsB xs) : xorL key nonce c pos (xorL key nonce c pos xs xs.length) xs.length = xs := by
  apply List.ext_getElem (by rw [xorL_len])
  intro i h1 h2
  rw [xorL_len] at h1
  have e : (xorL key nonce c pos (xorL key nonce c pos xs xs.length) xs.length).getD i 0 = xs.getD i 0 := by
    rw [xorL_get _ _ _ _ _ _ _ h1, xorL_get _ _ _ _ _ _ _ h1, xor_back (h.at_ i) (ksB_range _ _ _ _)]
  simpa [List.getD_eq_getElem?_getD, h2, xorL_len] using e
theorem xorAll_len (key nonce : List Int) (c : Int) (xs : List Int) : (xorAll key nonce c xs).length = if (xs.length : Int) ≤ room c then xs.length else 0 := by
  unfold xorAll
  split <;> simp [xorL_len]
/-- In what pieces it comes makes no difference. -/
theorem xorL_append (key nonce : List Int) (c : Int) (pos : Nat) (xs ys : List Int) : xorL key nonce c pos (xs ++ ys) (xs ++ ys).length = xorL key nonce c pos xs xs.length ++ xorL key nonce c (pos + xs.length) ys ys.length := by
  apply List.ext_getElem (by simp [xorL_len])
  intro i h1 h2
  rw [xorL_len] at h1
  by_cases hi : i < xs.length
  · rw [List.getElem_append_left (by rw [xorL_len]; exact hi)]
    simp [xorL, List.getD_eq_getElem?_getD, List.getElem?_append_left hi]
  · rw [List.getElem_append_right (by rw [xorL_len]; omega)]
    simp only [xorL, List.getElem_map, List.getElem_range, List.length_map, List.length_range]
    rw [List.getD_eq_getElem?_getD, List.getD_eq_getElem?_getD, List.getElem?_append_right (by omega), show pos + xs.length + (i - xs.length) = pos + i by omega]

/-- A piece that there is room for, whatever was ahead: what is handed in lay there before the stream was made (world wb). -/
theorem sxor_ok (wb w : World) (g : Nat) (key nonce : List Int) (c : Int) (pos : Nat) (rest : Value) (v : Value) (xs : List Int) (hk : key.length = 32) (hn : nonce.length = 12) (hkb : IsB key) (hnb : IsB nonce) (hc : 0 ≤ c ∧ c < 4294967296)
    (hbl : Below wb.heap.size wb w) (hg : wb.heap.size ≤ g) (ht : Tab wb) (hd : Rd wb v (bs xs)) (hxs : IsB xs) (hs : StreamAt w g key nonce c pos rest) (hl : xs.length ≤ 4294967296) (hroom : ((pos + xs.length : Nat) : Int) ≤ room c) :
    Calls Tryd.prog 20 #[.pointer (some ⟨g, 0, none⟩), v] w fun e w' => ∃ o rest', e = .returned (.tuple #[.slice (some ⟨o, 0, none⟩) xs.length xs.length, .bool true]) ∧ w.heap.size ≤ o ∧ o ≠ g ∧ Blk w' o (bs (xorL key nonce c pos xs xs.length)) 5 ∧
      StreamAt w' g key nonce c (pos + xs.length) rest' ∧ Turns (fun b => b = g) w w' ∧ Below wb.heap.size wb w' := by
  have hlt := ht.lt
  have hgl := hs.blk.lt
  refine (sxor_any w g key nonce c pos rest v xs hk hn hkb hnb hs hc (by unfold room at hroom; omega) (hd.stay hbl (Nat.le_refl _)) hxs
    (fun h0 b o m k hv => by have := (Rd.lt hd (by rw [bs_len]; exact h0)) b o m k hv; omega) (by omega) (ht.stay hbl) hl (by unfold room at hroom; omega)).mono ?_
  rintro e w' ⟨o, rest', rfl, h1, h2, h3, _, h5⟩
  exact ⟨o, rest', rfl, h1, by omega, h2, h3, h5, Turns.below hbl h5 hbl.size (fun j hj => by omega)⟩

theorem sxor_nil (w : World) (v : Value) (xs : List Int) (hd : Rd w v (bs xs)) (h0 : 0 < xs.length) :
    Calls Tryd.prog 20 #[.pointer none, v] w fun e w' => e = .returned (.tuple #[.slice none 0 0, .bool false]) ∧ Below w.heap.size w w' := by
  obtain ⟨A, cap, rfl, hc1, hc2, _, _⟩ := hd
  rw [bs_len] at *
  unfold maxLen at hc2
  have h1 : (0 : Int) < (xs.length : Int) := by omega
  go_enter Tryd.func20, Tryd.ntmps20
  go_wp2_with (go_at_call 22; refine (left_nil w).mono ?_; rintro e w1 ⟨rfl, hb1⟩)
  all_goals go_ret2
  all_goals exact ⟨rfl, hb1⟩
end Go.Proofs.YtmjjnaaiakchhaaDoor
