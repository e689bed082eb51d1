/-
  chacha.Xor; the reference's Bytes and Xor.
-/
import Derived.Test.YtmjjnaaiakchhaaDoorStreamX
import Derived.RegionTactic
import Derived.BigRegion
namespace Go.Proofs.YtmjjnaaiakchhaaDoor
open Go.RowKit

/-- How many bytes there are from a counter on. -/
def room (c : Int) : Int := (4294967296 - c) * 64
def xorAll (key nonce : List Int) (c : Int) (xs : List Int) : List Int := if (xs.length : Int) ≤ room c then xorL key nonce c 0 xs xs.length else []

theorem Rd.lt {w : World} {v : Value} {xs : List Value} (h : Rd w v xs) (hl : 0 < xs.length) : ∀ b o n k, v = .slice (some ⟨b, o, none⟩) n k → b < w.heap.size := by
  intro b o n k hv
  obtain ⟨A, c, rfl, _, _, _, h3⟩ := h
  cases hv
  rcases h3 with h3 | ⟨b', o', hA, h3⟩
  · rw [h3] at hl; simp at hl
  · cases hA
    exact World.block_lt_of_cell? w _ (h3 0 hl)

/-- chacha.Xor: the answer, in new memory. -/
def XorRes (key nonce : List Int) (c : Int) (xs : List Int) (w : World) (e : Ending) (w' : World) : Prop :=
  ∃ v, e = .returned (.tuple #[v, .bool (decide ((xs.length : Int) ≤ room c))]) ∧ Rd w' v (bs (xorAll key nonce c xs)) ∧ Below w.heap.size w w' ∧ ∀ b o n k, v = .slice (some ⟨b, o, none⟩) n k → w.heap.size ≤ b

set_option maxRecDepth 100000 in
set_option maxHeartbeats 2000000 in
theorem chxor_any (w : World) (key nonce : List Int) (c : Int) (v : Value) (xs : List Int) (hk : key.length = 32) (hn : nonce.length = 12) (hkb : IsB key) (hnb : IsB nonce) (hc : 0 ≤ c ∧ c < 4294967296)
    (hd : Rd w v (bs xs)) (hxs : IsB xs) (ht : Tab w) (hlen : xs.length ≤ 4294967296) :
    Calls Tryd.prog 23 #[.agg (bs key).toArray, .int .u32 c, .agg (bs nonce).toArray, v] w (XorRes key nonce c xs w) := by
  have HK := Lib.hid hk
  have HN := Lib.hid hn
  have HKB := Lib.hid hkb
  have HNB := Lib.hid hnb
  clear hk hn hkb hnb
  obtain ⟨B, hB⟩ : ∃ B, w.heap.size = B := ⟨_, rfl⟩
  go_enter Tryd.func23, Tryd.ntmps23
  go_upto_region 1 with fail
  have b0 : Blk ((w.alloc (.cells (bs key).toArray 22)).alloc (.cells (bs nonce).toArray 24)) B (bs key) 22 := (Blk.mk_ _ hB.symm rfl).al _
  have b1 : Blk ((w.alloc (.cells (bs key).toArray 22)).alloc (.cells (bs nonce).toArray 24)) (B + 1) (bs nonce) 24 := Blk.mk_ _ (by simp [hB]) rfl
  have bb : Below B w ((w.alloc (.cells (bs key).toArray 22)).alloc (.cells (bs nonce).toArray 24)) := bw_al (bw_al (Below.refl _ _) (by omega) _) (by simp; omega) _
  generalize ((w.alloc (.cells (bs key).toArray 22)).alloc (.cells (bs nonce).toArray 24)) = w1 at *
  have hBw := b0.lt
  by_cases hle : (xs.length : Int) ≤ room c
  · go_wp2_with (first
      | (refine wp_load_blk rfl 22 (.tmp 4) rfl rfl b0 Tryd.underlying22 rfl (n := 32) (by kernel_rfl) (by rw [bs_len, HK.out]) ?_)
      | (refine wp_load_blk rfl 24 (.tmp 6) rfl rfl b1 Tryd.underlying24 rfl (n := 12) (by kernel_rfl) (by rw [bs_len, HN.out]) ?_)
      | (go_at_call 19; refine (newstream_any w1 key nonce c HK.out HN.out hc).mono ?_; rintro e w2 ⟨g, rfl, hg, hst, hb2⟩)
      | (go_at_call 20; refine (sxor_any _ g key nonce c 0 _ v xs HK.out HN.out HKB.out HNB.out hst hc (by unfold room at hle; omega) ((hd.stay bb (by omega)).stay hb2 (Nat.le_refl _)) hxs (fun h0 b o n k hv => by have := (Rd.lt hd (by rw [bs_len]; exact h0)) b o n k hv; omega) (by omega) ((ht.keep bb (by have := ht.lt; omega)).stay hb2) hlen (by unfold room at hle; omega)).mono ?_; rintro e w3 ⟨o, rest', rfl, ho, hbo, hst3, hne, htu⟩))
    all_goals go_ret2
    refine ⟨_, by rw [decide_eq_true hle]; rfl, ?_, ?_, ?_⟩
    · rw [xorAll, if_pos hle]
      have := Rd.of_blk hbo (by rw [bs_len, xorL_len]; omega)
      rwa [bs_len, xorL_len] at this
    · rw [hB]
      exact Turns.below (bw_then bb hb2 (by omega)) htu (by have := hb2.size; omega) (fun j hj => by omega)
    · intro b' o' n' k' h
      cases h
      have := hb2.size
      omega
  · go_wp2_with (first
      | (refine wp_load_blk rfl 22 (.tmp 4) rfl rfl b0 Tryd.underlying22 rfl (n := 32) (by kernel_rfl) (by rw [bs_len, HK.out]) ?_)
      | (refine wp_load_blk rfl 24 (.tmp 6) rfl rfl b1 Tryd.underlying24 rfl (n := 12) (by kernel_rfl) (by rw [bs_len, HN.out]) ?_)
      | (go_at_call 19; refine (newstream_any w1 key nonce c HK.out HN.out hc).mono ?_; rintro e w2 ⟨g, rfl, hg, hst, hb2⟩)
      | (go_at_call 20; refine (sxor_long _ g key nonce c 0 _ v xs HK.out HN.out hst hc (by omega) ((hd.stay bb (by omega)).stay hb2 (Nat.le_refl _)) (by unfold room at hle; omega)).mono ?_; rintro e w3 ⟨rfl, hb3⟩))
    all_goals go_ret2
    refine ⟨_, by rw [decide_eq_false (by omega)]; rfl, ?_, ?_, ?_⟩
    · rw [xorAll, if_neg (by omega)]
      exact Rd.nil _
    · rw [hB]
      exact bw_then (bw_then bb hb2 (by omega)) hb3 (by have := hb2.size; omega)
    · intro b' o' n' k' h
      cases h

theorem atV_set (key nonce : List Int) (c c' : Int) (hk : key.length = 32) : (atV key c nonce).set 32 (.int .u32 c') = atV key c' nonce := by
  unfold atV
  have h : (bs key).length = 32 := by rw [bs_len, hk]
  rw [List.set_append_right _ _ (by omega), h]
  rfl
theorem atV_one (key nonce : List Int) (c : Int) : ∀ y ∈ atV key c nonce, y.oneCell' = true := by
  intro y hy
  simp only [atV, bs, List.mem_append, List.mem_cons, List.mem_map] at hy
  rcases hy with ⟨x, _, rfl⟩ | rfl | ⟨x, _, rfl⟩ <;> rfl
theorem Rd.take {w : World} {A : Option Addr} {m c : Nat} {xs : List Value} (h : Rd w (.slice A m c) xs) (n : Nat) (hn : n ≤ xs.length) : Rd w (.slice A n c) (xs.take n) := by
  obtain ⟨A', c', hv, h1, h2, h0, h3⟩ := h
  cases hv
  refine ⟨A, c, by rw [List.length_take, Nat.min_eq_left hn], by rw [List.length_take]; omega, h2, h0, ?_⟩
  rcases h3 with rfl | ⟨b, o, rfl, h3⟩
  · exact .inl (by simp)
  · refine .inr ⟨b, o, rfl, fun j hj => ?_⟩
    rw [List.length_take] at hj
    rw [h3 j (by omega), List.getElem_take]

theorem ksL_take (key nonce : List Int) (c : Int) (a n m : Nat) (h : n ≤ m) : (ksL key nonce c a m).take n = ksL key nonce c a n := by
  obtain ⟨d, rfl⟩ : ∃ d, m = n + d := ⟨m - n, by omega⟩
  rw [ksL_append, List.take_append_of_le_length (by rw [ksL_len]; exact Nat.le_refl _), List.take_of_length_le (by rw [ksL_len]; exact Nat.le_refl _)]
def ksAll (key nonce : List Int) (c : Int) (n : Nat) : List Int := if (n : Int) ≤ room c then ksL key nonce c 0 n else []
def BytesRes (key nonce : List Int) (c : Int) (n : Nat) (w : World) (e : Ending) (w' : World) : Prop :=
  ∃ v, e = .returned (.tuple #[v, .bool (decide ((n : Int) ≤ room c))]) ∧ Rd w' v (bs (ksAll key nonce c n)) ∧ Below w.heap.size w w'

structure BInv (B : Nat) (w0 w1 wr : World) (key nonce : List Int) (c : Int) (k : Nat) (v : Value) : Prop where
  own : wr.ownsRow (B + 1) 5 1 v (64 * k) (bs (ksL key nonce c 0 (64 * k)))
  b : Below (B + 1) w1 wr
  x : Blk wr B (atV key c nonce) 26

set_option maxRecDepth 100000 in
set_option maxHeartbeats 2000000 in
theorem bytes02_any (w : World) (key nonce : List Int) (c : Int) (n : Nat) (hk : key.length = 32) (hn : nonce.length = 12) (hkb : IsB key) (hnb : IsB nonce) (hc : 0 ≤ c ∧ c < 4294967296) (hlen : n ≤ 274877906944) :
    Calls Tryd.prog 21 #[.agg (atV key c nonce).toArray, .int .i64 n] w (BytesRes key nonce c n w) := by
  have HA := Lib.hid (fun c => show (atV key c nonce).length = 45 by rw [atV_len, hk, hn])
  have HK := Lib.hid hk
  have HC := Lib.hid (fun c w => blockr_any key nonce c w hk hn hkb hnb)
  clear hk hn hkb hnb
  obtain ⟨B, hB⟩ : ∃ B, w.heap.size = B := ⟨_, rfl⟩
  obtain ⟨q, hq⟩ : ∃ q, (n + 63) / 64 = q := ⟨_, rfl⟩
  have hq2 : ((n : Int) + 63) / 64 = (q : Int) := by omega
  have hq3 : q ≤ 4294967297 := by omega
  have HQ := Lib.hid hq
  clear hq
  go_enter Tryd.func21, Tryd.ntmps21
  go_upto_region 1 with fail
  have b1 : Blk (w.alloc (.cells (atV key c nonce).toArray 26)) B (atV key c nonce) 26 := Blk.mk_ _ hB.symm rfl
  have bb : Below B w (w.alloc (.cells (atV key c nonce).toArray 26)) := bw_al (Below.refl _ _) (by omega) _
  generalize w.alloc (.cells (atV key c nonce).toArray 26) = w1 at *
  have c0 := b1.at_ 32 (atV_c key c nonce HK.out)
  have hBw := b1.lt
  by_cases hle : (q : Int) ≤ 4294967296 - c
  · have hr : (n : Int) ≤ room c := by have := HQ.out; unfold room; omega
    have HR := Lib.hid hr
    clear hr
    go_upto_region 5 with fail
    go_wp2_with fail
    simp only [hq2]
    clear c0
    go_loopw [7, 8] (fun v i wr => ∃ k : Nat, k ≤ q ∧ i = .int .i64 k ∧ BInv B w w1 wr key nonce c k v) (fun _ i _ => q - (intOf i).toNat)
    case atStart => exact ⟨0, Nat.zero_le _, rfl, World.ownsRow_nil _ _ _ _, Below.refl _ _, b1⟩
    case round =>
      obtain ⟨k, hkq, rfl, inv⟩ := hrel
      by_cases hlt : k < q
      · have c0 := inv.x.at_ 32 (atV_c key c nonce HK.out)
        go_upto_region 9 with (first
          | (refine wp_load_blk rfl 26 (.tmp 2) rfl rfl inv.x Tryd.underlying26 rfl (n := 45) (by kernel_rfl) (HA.out c) ?_)
          | (refine wp_store_blk rfl 26 (.tmp 9) (.tmp 25) rfl rfl rfl (cs := atV (List.replicate 32 0) 0 (List.replicate 12 0)) (Blk.mk_ _ rfl rfl) (atV_one _ _ _) (by rw [HA.out]; rfl) (n := 45) (by kernel_rfl) (HA.out c) ?_; intro w2 hb2 ho2))
        obtain ⟨g9, hg9⟩ : ∃ g9, wr.heap.size = g9 := ⟨_, rfl⟩
        have hBg : B < g9 := by rw [← hg9]; exact inv.x.lt
        rw [hg9] at hb2 ho2
        simp only [hg9]
        have d0 : Blk w2 B (atV key c nonce) 26 := (inv.x.al _).only ho2 (by omega)
        have e0 := d0.at_ 32 (atV_c key c nonce HK.out)
        have e1 := hb2.free 32
        have e2 := hb2.at_ 32 (atV_c key c nonce HK.out)
        obtain ⟨ck, hck⟩ : ∃ ck, c + (k : Int) = ck := ⟨_, rfl⟩
        have hck2 : 0 ≤ ck ∧ ck < 4294967296 := by omega
        have hb3 : Blk (w2.setCell ⟨g9, 32, none⟩ (.int .u32 ck)) g9 (atV key ck nonce) 26 := by
          have := hb2.set 32 (.int .u32 ck)
          rwa [atV_set key nonce c ck HK.out] at this
        have HB3 := Lib.hid hb3
        have HINV := Lib.hid inv
        have HOL := Lib.hid ((Only.set w2 g9 32 (.int .u32 ck)).below (ho2.below (bw_al (Below.refl g9 wr) (Nat.le_of_eq hg9.symm) _) (Nat.le_refl _)) (Nat.le_refl _))
        have HCK := Lib.hid (fun _ : Unit => hck)
        have hw : IntKind.u32.wrap (c + IntKind.u32.wrap (k : Int)) = ck := by rw [IntKind.wrap_u32, IntKind.wrap_u32]; omega
        clear hb3 inv ho2 c0
        go_upto_region 10 with fail
        generalize w2.setCell ⟨g9, 32, none⟩ (.int .u32 ck) = w3 at *
        have hs3 : g9 < w3.heap.size := HB3.out.lt
        go_wp2_with (first
          | (refine wp_load_blk rfl 26 (.tmp 9) rfl rfl HB3.out Tryd.underlying26 rfl (n := 45) (by kernel_rfl) (HA.out ck) ?_)
          | (go_at_call 17; refine (HC.out ck _).mono ?_; rintro e w4 ⟨vb, rfl, hb4, hw4⟩)
          | (at_builtin; refine wp_app (.tmp 32) (.tmp 34) 30 rfl rfl 5 (.int .u8 0) 1 Tryd.underlying30 info5 rfl (B + 1) rfl (ownsRow_keep (ownsRow_keep HINV.out.own HOL.out (Nat.le_of_eq hg9)) hb4 (Nat.le_refl _)) rfl (Rd.of_own hw4) (bs_one _) (by decide) (by rw [bs_len, block_len]; omega) (by have := hb4.size; omega) ?_; intro v5 w5 hown5 hgr5 hb5))
        go_roundw
        case measure => simp [intOf]; omega
        refine ⟨k + 1, by omega, by go_num, ?_, ?_, ?_⟩
        · · have e : ksL key nonce c 0 (64 * (k + 1)) = ksL key nonce c 0 (64 * k) ++ block key ck nonce := by
              rw [show 64 * (k + 1) = 64 * k + 64 by omega, ksL_append, Nat.zero_add, ksL_block _ _ _ _ (block_len _ _ _), HCK.out ()]
            rw [e, bs_append, show 64 * (k + 1) = 64 * k + (bs (block key ck nonce)).length by rw [bs_len, block_len]; omega]
            exact hown5
        · · exact ((HINV.out.b.trans (HOL.out.mono (by omega))).trans (hb4.mono (by omega))).trans hb5
        · · exact ((((HINV.out.x.keep HOL.out (by omega)).stay hb4)).keep hb5 (by omega))
      · obtain rfl : k = q := by omega
        have hrd := Rd.of_own inv.own
        have hkl : (bs (ksL key nonce c 0 (64 * k))).length = 64 * k := by rw [bs_len, ksL_len]
        obtain ⟨A, cc, rfl, h1, h2, _, _⟩ := id hrd
        rw [hkl] at h1 hrd
        have hnq : n ≤ 64 * k := by have := HQ.out; omega
        have hrt := hrd.take n (by rw [hkl]; exact hnq)
        have HRT := Lib.hid hrt
        have HB := Lib.hid inv.b
        unfold maxLen at h2
        clear hrt hrd inv
        rw [hkl]
        have hni : (n : Int) ≤ (cc : Int) := by omega
        go_wp2_with fail
        all_goals go_ret2
        refine ⟨_, by rw [decide_eq_true HR.out]; rfl, ?_, ?_⟩
        · rw [ksAll, if_pos HR.out]
          have := HRT.out
          rw [bs, ← List.map_take, ksL_take _ _ _ _ _ _ hnq] at this
          exact this
        · rw [hB]
          exact bb.trans ⟨HB.out.os, HB.out.tape, HB.out.output, HB.out.size, fun j hj => HB.out.block j (by omega)⟩
  · have hr : ¬ (n : Int) ≤ room c := by have := HQ.out; unfold room; omega
    have HR := Lib.hid (fun _ : Unit => hr)
    clear hr
    go_wp2_with fail
    go_ret2
    refine ⟨_, by rw [decide_eq_false (by have := HR.out (); omega)]; rfl, ?_, ?_⟩
    · rw [ksAll, if_neg (by have := HR.out (); omega)]
      exact Rd.nil _
    · rw [hB]
      exact bb

/-- The reference's Xor: the same answer. -/
def XorResR (key nonce : List Int) (c : Int) (xs : List Int) (w : World) (e : Ending) (w' : World) : Prop :=
  ∃ v, e = .returned (.tuple #[v, .bool (decide ((xs.length : Int) ≤ room c))]) ∧ Rd w' v (bs (xorAll key nonce c xs)) ∧ Below w.heap.size w w'
theorem ksL_get (key nonce : List Int) (c : Int) (a n i : Nat) (h : i < n) : (bs (ksL key nonce c a n))[i]? = some (.int .u8 (ksB key nonce c (a + i))) := by
  simp [bs, ksL, h]
theorem Rd.cellAt {w : World} {v : Value} {xs : List Value} (h : Rd w v xs) (hl : 0 < xs.length) : ∃ b o c, v = .slice (some ⟨b, o, none⟩) xs.length c ∧ xs.length ≤ c ∧ c ≤ 9223372036854775807 ∧ ∀ j x, xs[j]? = some x → w.cell? ⟨b, o + j, none⟩ = some x := by
  obtain ⟨A, c, rfl, h1, h2, _, h3⟩ := h
  rcases h3 with h3 | ⟨b, o, rfl, h3⟩
  · rw [h3] at hl; simp at hl
  · refine ⟨b, o, c, rfl, h1, by unfold maxLen at h2; omega, fun j x hj => ?_⟩
    obtain ⟨hlt, rfl⟩ := List.getElem?_eq_some_iff.1 hj
    exact h3 j hlt

set_option maxRecDepth 100000 in
set_option maxHeartbeats 2000000 in
theorem xor02_any (w : World) (key nonce : List Int) (c : Int) (v : Value) (xs : List Int) (hk : key.length = 32) (hn : nonce.length = 12) (hkb : IsB key) (hnb : IsB nonce) (hc : 0 ≤ c ∧ c < 4294967296) (hd : Rd w v (bs xs)) (hlen : xs.length ≤ 274877906944) :
    Calls Tryd.prog 25 #[.agg (atV key c nonce).toArray, v] w (XorResR key nonce c xs w) := by
  have HA := Lib.hid (show (atV key c nonce).length = 45 by rw [atV_len, hk, hn])
  have HB := Lib.hid (fun w => bytes02_any w key nonce c xs.length hk hn hkb hnb hc hlen)
  have hd0 := Lib.hid hd
  obtain ⟨A, cap, rfl, hc1, hc2, h0, h3⟩ := hd
  rw [bs_len] at hd0 hc1 ⊢
  unfold maxLen at hc2
  have H3 := Lib.hid h3
  clear hk hn hkb hnb h3 h0
  obtain ⟨B, hB⟩ : ∃ B, w.heap.size = B := ⟨_, rfl⟩
  obtain ⟨i, hi, hz0, hz1, hz2⟩ := info_parts info5
  go_enter Tryd.func25, Tryd.ntmps25
  go_upto_region 1 with fail
  have b1 : Blk (w.alloc (.cells (atV key c nonce).toArray 26)) B (atV key c nonce) 26 := Blk.mk_ _ hB.symm rfl
  have bb : Below B w (w.alloc (.cells (atV key c nonce).toArray 26)) := bw_al (Below.refl _ _) (by omega) _
  generalize w.alloc (.cells (atV key c nonce).toArray 26) = w1 at *
  have hBw := b1.lt
  go_upto_region 2 with (first
    | (refine wp_load_blk rfl 26 (.tmp 2) rfl rfl b1 Tryd.underlying26 rfl (n := 45) (by kernel_rfl) HA.out ?_)
    | (go_at_call 21; refine (HB.out _).mono ?_; rintro e w2 ⟨vk, rfl, hrk, hb2⟩))
  by_cases hle : (xs.length : Int) ≤ room c
  · have hks : ksAll key nonce c xs.length = ksL key nonce c 0 xs.length := by rw [ksAll, if_pos hle]
    rw [hks] at hrk
    have hdt : decide ((xs.length : Int) ≤ room c) = true := decide_eq_true hle
    simp only [hdt]
    have HLE := Lib.hid hle
    clear hks hle
    have hbB : Below B w w2 := bw_then bb hb2 (by omega)
    go_upto_region 5 with (refine wpList_make_full w2 rfl (.tmp 20) (.tmp 20) 30 rfl w2.heap.size 5 i _ 1 Tryd.underlying30 hi hz0 hz1 .i64 .i64 _ _ xs.length rfl rfl rfl rfl (by rw [hz2]; omega) (by unfold maxLen; omega) (Nat.le_refl _) ?_; intro w3 hown hgrow)
    obtain ⟨go, hgo⟩ : ∃ go, w2.heap.size = go := ⟨_, rfl⟩
    have hb3 : Below go w2 w3 := (Below.refl go w2).grown hgrow (Nat.le_of_eq hgo.symm) (fun k h => by cases h)
    have hout : Blk w3 go (bs (xorL key nonce c 0 xs 0 ++ List.replicate (xs.length - 0) 0)) 5 := by
      have h := blk_of_full hown
      rw [show (Value.cells (Value.int IntKind.u8 0)) = #[Value.int IntKind.u8 0] from rfl, Nat.mul_one, toList_madeCells_one, hgo] at h
      simpa [bs, xorL] using h
    have hBgo : B ≤ go := by rw [← hgo, ← hB]; exact hbB.size
    simp only [hgo]
    clear hown hgrow hb2
    have HRK := Lib.hid hrk
    clear hrk
    go_wp2_with fail
    go_loopw [9] (fun i wr => ∃ k : Nat, k ≤ xs.length ∧ i = .int .i64 k ∧ Blk wr go (bs (xorL key nonce c 0 xs k ++ List.replicate (xs.length - k) 0)) 5 ∧ Below go w2 wr) (fun i _ => xs.length - (intOf i).toNat)
    case atStart => exact ⟨0, Nat.zero_le _, rfl, hout, hb3⟩
    case round =>
      obtain ⟨k, hk, rfl, ho, hbl⟩ := hrel
      by_cases hlt : k < xs.length
      · obtain ⟨bk, ok, ck, hvk, hk1, hk2, hkc⟩ := HRK.out.cellAt (by rw [bs_len, ksL_len]; omega)
        rw [bs_len, ksL_len] at hvk hk1
        subst hvk
        obtain ⟨bd, od, cd', hvd, hd1, hd2, hdc⟩ := hd0.out.cellAt (by rw [bs_len]; omega)
        rw [bs_len] at hvd hd1
        injection hvd with q1 q2 q3
        subst q1 q3
        have h1 := hdc k _ (show (bs xs)[k]? = some (.int .u8 (xs.getD k 0)) by simp [bs, List.getD_eq_getElem?_getD, hlt])
        have hbdl : bd < w.heap.size := World.block_lt_of_cell? w _ h1
        have h2 := hkc k _ (ksL_get key nonce c 0 _ k hlt)
        have hbkl : bk < w2.heap.size := World.block_lt_of_cell? w2 _ h2
        have e1 : wr.cell? ⟨bd, od + k, none⟩ = some (.int .u8 (xs.getD k 0)) := (hbl.cell (p := ⟨bd, od + k, none⟩) (by show bd < go; omega)).trans ((hbB.cell (p := ⟨bd, od + k, none⟩) (by show bd < B; omega)).trans h1)
        have e2 : wr.cell? ⟨bk, ok + k, none⟩ = some (.int .u8 (ksB key nonce c (0 + k))) := (hbl.cell (p := ⟨bk, ok + k, none⟩) (by show bk < go; omega)).trans h2
        obtain ⟨x, hx⟩ : ∃ x, xs.getD k 0 = x := ⟨_, rfl⟩
        obtain ⟨y, hy⟩ : ∃ y, ksB key nonce c (0 + k) = y := ⟨_, rfl⟩
        rw [hx] at e1
        rw [hy] at e2
        have e3 : wr.cell? ⟨go, k, none⟩ = some (.int .u8 0) := by
          rw [ho.get, bs, List.getElem?_map, List.getElem?_append_right (by rw [xorL_len]; exact Nat.le_refl _), xorL_len, Nat.sub_self, List.getElem?_replicate, if_pos (by omega)]
          rfl
        have e4 := ho.free k
        have hs := (ho.set k (.int .u8 (bits .xor .u8 x y)))
        have HS := Lib.hid (show Blk (wr.setCell ⟨go, k, none⟩ (.int .u8 (bits .xor .u8 x y))) go (bs (xorL key nonce c 0 xs (k + 1) ++ List.replicate (xs.length - (k + 1)) 0)) 5 from by
          rw [← hx, ← hy, xor_set key nonce c 0 xs k hlt, hx, hy] at hs
          exact hs)
        have HBL := Lib.hid hbl
        clear hs h1 h2 hkc hdc hbl hx hy
        go_wp2_with fail
        go_region
        go_wp2_with fail
        go_roundw
        case rel => exact ⟨k + 1, by omega, by go_num, HS.out.d1, bw_d1 (HBL.out.setCell (Nat.le_refl _) _)⟩
        case measure => simp [intOf]; omega
      · obtain rfl : k = xs.length := by omega
        go_wp2_with fail
        all_goals go_ret2
        refine ⟨_, by rw [hdt]; rfl, ?_, ?_⟩
        · rw [xorAll, if_pos HLE.out]
          rw [Nat.sub_self, List.replicate_zero, List.append_nil] at ho
          have := Rd.of_blk ho (by rw [bs_len, xorL_len]; omega)
          rwa [bs_len, xorL_len] at this
        · rw [hB]
          exact hbB.trans (hbl.mono hBgo)
  · have hdf : decide ((xs.length : Int) ≤ room c) = false := decide_eq_false hle
    simp only [hdf]
    have HLE := Lib.hid (fun _ : Unit => hle)
    clear hle
    go_wp2_with fail
    all_goals go_ret2
    refine ⟨_, by rw [hdf]; rfl, ?_, ?_⟩
    · rw [xorAll, if_neg (by have := HLE.out (); omega)]
      exact Rd.nil _
    · rw [hB]
      exact bw_then bb hb2 (by omega)
end Go.Proofs.YtmjjnaaiakchhaaDoor
