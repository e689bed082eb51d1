/-
  intaglioref02.Block: the document's block.
-/
import Derived.Test.YtmjjnaaiakchhaaDoorBegin
import Derived.Test.YtmjjnaaiakchhaaDoorAt
import Derived.Test.YtmjjnaaiakchhaaDoorLow
import Derived.Test.YtmjjnaaiakchhaaDoorApp
namespace Go.Proofs.YtmjjnaaiakchhaaDoor
open Go.RowKit

def roundA (s : List Int) : Nat → List Int
  | 0 => s
  | k + 1 => qr (roundA s k) k (4 + k) (8 + k) (12 + k)
def roundB (s : List Int) : Nat → List Int
  | 0 => s
  | k + 1 => qr (roundB s k) k (4 + (k + 1) % 4) (8 + (k + 2) % 4) (12 + (k + 3) % 4)
def rounds (s : List Int) : Nat → List Int
  | 0 => s
  | i + 1 => roundB (roundA (rounds s i) 4) 4
theorem roundA_len (s : List Int) (k : Nat) : (roundA s k).length = s.length := by induction k with | zero => rfl | succ k ih => simp [roundA, qr_len, ih]
theorem roundB_len (s : List Int) (k : Nat) : (roundB s k).length = s.length := by induction k with | zero => rfl | succ k ih => simp [roundB, qr_len, ih]
theorem rounds_len (s : List Int) (k : Nat) : (rounds s k).length = s.length := by induction k with | zero => rfl | succ k ih => simp [rounds, roundA_len, roundB_len, ih]
def outK (s was : List Int) : Nat → List Int
  | 0 => []
  | i + 1 => outK s was i ++ lowN ((s.getD i 0 + was.getD i 0) % 4294967296) 4
theorem outK_len (s was : List Int) (k : Nat) : (outK s was k).length = 4 * k := by induction k with | zero => rfl | succ k ih => simp [outK, lowN_len, ih]; omega
def block (key : List Int) (c : Int) (nonce : List Int) : List Int := outK (rounds (beginN key c nonce 12) 10) (beginN key c nonce 12) 16

structure BRInv (B g : Nat) (w wr : World) (xs : List Value) (s : List Int) : Prop where
  h : B < g
  x : Blk wr B xs 26
  s : Blk wr g (us s) 62
  b : Below B w wr

theorem BRInv.step {B g : Nat} {w wr w' w2 : World} {xs : List Value} {s s' : List Int} (h : BRInv B g w wr xs s) (hb : Below wr.heap.size wr w') (hs : Blk w2 g (us s') 62) (ho : Only g w' w2) : BRInv B g w w2 xs s' :=
  ⟨h.h, (h.x.stay hb).only ho (by have := h.h; omega), hs, ho.below (bw_then h.b hb (by have := h.x.lt; omega)) (by have := h.h; omega)⟩

set_option maxRecDepth 8000 in
set_option maxHeartbeats 1000000 in
theorem blockr_any (key nonce : List Int) (c : Int) (w : World) (hk : key.length = 32) (hn : nonce.length = 12) (hkb : IsB key) (hnb : IsB nonce) :
    Calls Tryd.prog 17 #[.agg (atV key c nonce).toArray] w fun e w' => NewB (block key c nonce) w e w' := by
  have HA := Lib.hid (show (atV key c nonce).length = 45 by rw [atV_len, hk, hn])
  have HC := Lib.hid (fun w => begin_any key nonce c w hk hn hkb hnb)
  clear hk hn hkb hnb
  obtain ⟨B, hB⟩ : ∃ B, w.heap.size = B := ⟨_, rfl⟩
  go_enter Tryd.func17, Tryd.ntmps17
  go_upto_region 1 with fail
  have b1 : Blk (w.alloc (.cells (atV key c nonce).toArray 26)) B (atV key c nonce) 26 := Blk.mk_ _ hB.symm rfl
  have bb : Below B w (w.alloc (.cells (atV key c nonce).toArray 26)) := bw_al (Below.refl _ _) (by omega) _
  generalize w.alloc (.cells (atV key c nonce).toArray 26) = w1 at *
  go_wp2_with (first
      | (refine wp_load_blk rfl 26 (.tmp 1) rfl rfl b1 Tryd.underlying26 rfl (n := 45) (by kernel_rfl) HA.out ?_)
      | (go_at_call 37; refine (HC.out _).mono ?_; rintro e w' ⟨rfl, hb⟩)
      | (refine wp_store_blk rfl 62 (.tmp 3) (.tmp 11) rfl rfl rfl (cs := us z16) (Blk.mk_ _ rfl rfl) (us_one _) (by rw [us_len, beginN_len]; rfl) (n := 16) (by kernel_rfl) (by rw [us_len, beginN_len]) ?_; intro w2 hb2 ho2))
  have hs1 := hb.size
  have hg1 : B < w1.heap.size := b1.lt
  have inv0 : BRInv B w'.heap.size w w2 (atV key c nonce) (rounds (beginN key c nonce 12) 0) := ⟨by omega, ((b1.stay hb).al _).only ho2 (by omega), hb2, ho2.below (bw_al (bw_then bb hb (by omega)) (by omega) _) (by omega)⟩
  obtain ⟨s0, hs0⟩ : ∃ s0, beginN key c nonce 12 = s0 := ⟨_, rfl⟩
  have hl0 : s0.length = 16 := by rw [← hs0, beginN_len]
  have HL := Lib.hid hl0
  have HS := Lib.hid (fun _ : Unit => hs0)
  rw [hs0] at inv0
  clear hl0 hs0 hb2 ho2 hb bb b1
  generalize w'.heap.size = g at *
  go_loopw [4] (fun i wr => ∃ j : Nat, j ≤ 10 ∧ i = .int .i64 j ∧ BRInv B g w wr (atV key c nonce) (rounds s0 j)) (fun i _ => 10 - (intOf i).toNat)
  case atStart => exact ⟨0, by omega, rfl, inv0⟩
  case round =>
    obtain ⟨j, hj, rfl, inv⟩ := hrel
    by_cases hlt : j < 10
    · go_wp2_with fail
      simp only [show decide ((j : Int) < 10) = true from decide_eq_true (by omega)]
      go_loopw [5] (fun i wr => ∃ k : Nat, k ≤ 4 ∧ i = .int .i64 k ∧ BRInv B g w wr (atV key c nonce) (roundA (rounds s0 j) k)) (fun i _ => 4 - (intOf i).toNat)
      case atStart => exact ⟨0, by omega, rfl, inv⟩
      case round =>
        obtain ⟨k, hk, rfl, inv⟩ := hrel
        by_cases hlk : k < 4
        · have hl := roundA_len (rounds s0 j) k
          rw [rounds_len, HL.out] at hl
          have HL2 := Lib.hid hl
          clear hl
          go_wp2_with (first
            | (refine wp_load_blk rfl 62 (.tmp 3) rfl rfl inv.s Tryd.underlying62 rfl (n := 16) (by kernel_rfl) (by rw [us_len, HL2.out]) ?_)
            | (go_at_call 38; refine (at_any _ _ _ _ _ _ HL2.out (by omega) (by omega) (by omega) (by omega)).mono ?_; rintro e w' ⟨rfl, hb⟩)
            | (refine wp_store_blk rfl 62 (.tmp 3) (.tmp 28) rfl rfl rfl (inv.s.stay hb) (us_one _) (by rw [us_len, us_len, qr_len]) (n := 16) (by kernel_rfl) (by rw [us_len, qr_len, HL2.out]) ?_; intro w2 hb2 ho2))
          go_roundw
          case rel =>
            refine ⟨k + 1, by omega, by go_num, inv.step hb ?_ ho2⟩
            exact hb2
          case measure => simp [intOf]; omega
        · obtain rfl : k = 4 := by omega
          simp only [Int.cast_ofNat_Int]
          go_wp2_with fail
          go_loopw [6] (fun i wr => ∃ k : Nat, k ≤ 4 ∧ i = .int .i64 k ∧ BRInv B g w wr (atV key c nonce) (roundB (roundA (rounds s0 j) 4) k)) (fun i _ => 4 - (intOf i).toNat)
          case atStart => exact ⟨0, by omega, rfl, inv⟩
          case round =>
            obtain ⟨k, hk, rfl, inv⟩ := hrel
            by_cases hlk : k < 4
            · have hl := roundB_len (roundA (rounds s0 j) 4) k
              rw [roundA_len, rounds_len, HL.out] at hl
              have HL2 := Lib.hid hl
              clear hl
              go_wp2_with (first
                | (refine wp_load_blk rfl 62 (.tmp 3) rfl rfl inv.s Tryd.underlying62 rfl (n := 16) (by kernel_rfl) (by rw [us_len, HL2.out]) ?_)
                | (go_at_call 38; refine (at_any _ _ _ _ _ _ HL2.out (by omega) (by omega) (by omega) (by omega)).mono ?_; rintro e w' ⟨rfl, hb⟩)
                | (refine wp_store_blk rfl 62 (.tmp 3) (.tmp 47) rfl rfl rfl (inv.s.stay hb) (us_one _) (by rw [us_len, us_len, qr_len]) (n := 16) (by kernel_rfl) (by rw [us_len, qr_len, HL2.out]) ?_; intro w2 hb2 ho2))
              go_roundw
              case rel =>
                refine ⟨k + 1, by omega, by go_num, inv.step hb ?_ ho2⟩
                exact hb2
              case measure => simp [intOf]; omega
            · obtain rfl : k = 4 := by omega
              go_wp2_with fail
              go_roundw
              case rel => exact ⟨j + 1, by omega, by go_num, inv⟩
              case measure => simp [intOf]; omega
    · obtain rfl : j = 10 := by omega
      simp only [Int.cast_ofNat_Int]
      have hl := rounds_len s0 10
      rw [HL.out] at hl
      obtain ⟨sr, hsr⟩ : ∃ sr, rounds s0 10 = sr := ⟨_, rfl⟩
      rw [hsr] at inv hl
      have HR := Lib.hid hl
      have HSR := Lib.hid (fun _ : Unit => hsr)
      clear hl hsr
      go_wp2_with (first
        | (refine wp_load_blk rfl 26 (.tmp 1) rfl rfl inv.x Tryd.underlying26 rfl (n := 45) (by kernel_rfl) HA.out ?_)
        | (go_at_call 37; refine (HC.out _).mono ?_; rintro e w' ⟨rfl, hb⟩)
        | (refine wp_store_blk rfl 62 (.tmp 8) (.tmp 49) rfl rfl rfl (cs := us z16) (Blk.mk_ _ rfl rfl) (us_one _) (by rw [us_len, beginN_len]; rfl) (n := 16) (by kernel_rfl) (by rw [us_len, beginN_len]) ?_; intro w2 hb2 ho2))
      have inv1 : BRInv B g w (w'.alloc (.cells (us z16).toArray 62)) (atV key c nonce) (sr) := ⟨inv.h, (inv.x.stay hb).al _, (inv.s.stay hb).al _, bw_al (bw_then inv.b hb (by have := inv.x.lt; omega)) (by have := inv.x.lt; have := hb.size; omega) _⟩
      have hgg : g < w'.heap.size := (inv.s.stay hb).lt
      have inv2 : BRInv B g w w2 (atV key c nonce) (sr) := ⟨inv1.h, inv1.x.only ho2 (by have := inv.h; omega), inv1.s.only ho2 (by omega), ho2.below inv1.b (by have := inv.h; omega)⟩
      rw [HS.out ()] at hb2
      clear inv1 ho2 hb inv
      generalize w'.heap.size = h at *
      go_loopw [7, 9] (fun v i wr => ∃ k : Nat, k ≤ 16 ∧ i = .int .i64 k ∧ BRInv B g w wr (atV key c nonce) (sr) ∧ Blk wr h (us s0) 62 ∧ h < wr.heap.size ∧ wr.ownsRow (h + 1) 5 1 v (4 * k) (bs (outK (sr) s0 k))) (fun _ i _ => 16 - (intOf i).toNat)
      case atStart => exact ⟨0, by omega, rfl, inv2, hb2, hb2.lt, World.ownsRow_nil _ _ _ _⟩
      case round =>
        obtain ⟨k, hk, rfl, inv, hb2, hh, hown⟩ := hrel
        by_cases hlk : k < 16
        · go_upto_region 18 with fail
          refine region_draws_old [(54, ?v54), (55, ?v55), (56, ?v56), (57, ?v57), (58, ?v58), (59, ?v59), (60, ?v60), (61, ?v61), (62, ?v62)] [63, 64, 7] [(0, [7])]
            (fun L T wr => BRInv B g w wr (atV key c nonce) sr ∧ Blk wr h (us s0) 62 ∧ h < wr.heap.size ∧ (L 10 = false → wr.ownsRow (h + 1) 5 1 u7 (4 * k) (bs (outK sr s0 k))) ∧
              (L 9 = true → L 10 = false → Rd wr (T 63) (bs (lowN ((sr.getD k 0 + s0.getD k 0) % 4294967296) 4))) ∧
              (L 10 = true → wr.ownsRow (h + 1) 5 1 (T 64) (4 * (k + 1)) (bs (outK sr s0 (k + 1)))) ∧ (L 11 = true → T 7 = T 64))
            (fun _ => undef) (by kernel_rfl) (by kernel_rfl) 66 rfl (by kernel_rfl) ?g0 ?hops ?hend
          case g0 => exact ⟨⟨inv.h, inv.x.d1, inv.s.d1, bw_d1 inv.b⟩, hb2.d1, hh, fun _ => hown, (fun h => by simp at h), (fun h => by simp at h), (fun h => by simp at h)⟩
          case hops =>
            simp only [AllFrom]
            refine ⟨?_, ?_, ?_, ?_, ?_, ?_, ?_, ?_, ?_, ?_, ?_, ?_, trivial⟩
            · (intro L T w hpre hpost hG; skip; first | exact .inl ⟨rfl, rfl⟩ | (refine .inl ⟨rfl, ?_⟩; simp only [execOp]; go_simp; (try go_ints); (try go_simp); (try rw [if_pos (by omega)]); (first | done | rfl)))
            · (intro L T w hpre hpost hG; skip; first | exact .inl ⟨rfl, rfl⟩ | (refine .inl ⟨rfl, ?_⟩; simp only [execOp]; go_simp; (try go_ints); (try go_simp); (try rw [if_pos (by omega)]); (first | done | rfl)))
            · (intro L T w hpre hpost hG; skip; first | exact .inl ⟨rfl, rfl⟩ | (refine .inl ⟨rfl, ?_⟩; simp only [execOp]; go_simp; (try go_ints); (try go_simp); (try rw [if_pos (by omega)]); (first | done | rfl)))
            · (intro L T w hpre hpost hG; (have c := hG.1.s.at_ k (us_get _ _ (by rw [HR.out]; omega))); first | exact .inl ⟨rfl, rfl⟩ | (refine .inl ⟨rfl, ?_⟩; simp only [execOp]; go_simp; (try go_ints); (try go_simp); (try rw [if_pos (by omega)]); (first | done | rfl)))
            · (intro L T w hpre hpost hG; skip; first | exact .inl ⟨rfl, rfl⟩ | (refine .inl ⟨rfl, ?_⟩; simp only [execOp]; go_simp; (try go_ints); (try go_simp); (try rw [if_pos (by omega)]); (first | done | rfl)))
            · (intro L T w hpre hpost hG; skip; first | exact .inl ⟨rfl, rfl⟩ | (refine .inl ⟨rfl, ?_⟩; simp only [execOp]; go_simp; (try go_ints); (try go_simp); (try rw [if_pos (by omega)]); (first | done | rfl)))
            · (intro L T w hpre hpost hG; (have c := hG.2.1.at_ k (us_get _ _ (by rw [HL.out]; omega))); first | exact .inl ⟨rfl, rfl⟩ | (refine .inl ⟨rfl, ?_⟩; simp only [execOp]; go_simp; (try go_ints); (try go_simp); (try rw [if_pos (by omega)]); (first | done | rfl)))
            · (intro L T w hpre hpost hG; skip; first | exact .inl ⟨rfl, rfl⟩ | (refine .inl ⟨rfl, ?_⟩; simp only [execOp]; go_simp; (try go_ints); (try go_simp); (try rw [if_pos (by omega)]); (first | done | rfl)))
            · (intro L T w hpre hpost hG; skip; first | exact .inl ⟨rfl, rfl⟩ | (refine .inl ⟨rfl, ?_⟩; simp only [execOp]; go_simp; (try go_ints); (try go_simp); (try rw [if_pos (by omega)]); (first | done | rfl)))
            · intro L T w hL hpre hpost hG
              obtain ⟨h1, h2, h3, h4, h5, h6, h7⟩ := hG
              have h10 : L 10 = false := hpost 10 _ rfl rfl
              refine .inl ⟨rfl, fun a K hK => ?_⟩
              simp only [execOp]
              go_simp
              refine (rlow_any _ _ _ (by omega) (by omega) (by omega) (by omega)).mono ?_
              rintro e w' ⟨v, rfl, hb, ho⟩
              refine hK _ _ ⟨⟨h1.h, h1.x.stay hb, h1.s.stay hb, bw_then h1.b hb (by have := h1.x.lt; omega)⟩, h2.stay hb, by have := hb.size; omega, fun _ => ownsRow_keep (h4 h10) hb (Nat.le_refl _), fun _ _ => ?_, ?_, ?_⟩
              · simpa using Rd.of_own ho
              · intro h; simp [h10] at h
              · have h11 : L 11 = false := hpost 11 _ rfl rfl
                intro h; simp [h11] at h
            · intro L T w hL hpre hpost hG
              obtain ⟨h1, h2, h3, h4, h5, h6, h7⟩ := hG
              refine .inl ⟨rfl, fun a K hK => ?_⟩
              refine upon_app (.tmp 54) (.tmp 63) 30 rfl 5 (.int .u8 0) 1 Tryd.underlying30 info5 rfl (h + 1) rfl (h4 hL) rfl (h5 (hpre 9 rfl rfl) hL) (bs_one _) (by decide) (by rw [bs_len, lowN_len]; omega) (by omega) ?_
              intro v' w' ho hb
              have h11 : L 11 = false := hpost 11 _ rfl rfl
              have hs := hb.size
              refine hK _ _ ⟨⟨h1.h, h1.x.keep hb (by have := h1.h; omega), h1.s.keep hb (by omega), h1.b.trans (hb.mono (by have := h1.h; omega))⟩, h2.keep hb (by omega), by omega, fun h => by simp at h, fun _ h => by simp at h, fun _ => ?_, fun h => by simp [h11] at h⟩
              simpa [bs_append, outK, lowN_len, bs_len, Nat.mul_add] using ho
            · intro L T w hL hpre hpost hG
              obtain ⟨h1, h2, h3, h4, h5, h6, h7⟩ := hG
              have h10 : L 10 = true := hpre 10 rfl rfl
              have h9 : L 9 = true := hpre 9 rfl rfl
              refine .inl ⟨rfl, fun a K hK => ?_⟩
              simp only [execOp]
              go_simp
              refine hK _ _ ⟨h1, h2, h3, fun h => by simp [h10] at h, fun _ h => by simp [h10] at h, fun _ => by simpa using h6 h10, fun _ => by simp⟩
          case hend =>
            intro L T w hall hG
            obtain ⟨h1, h2, h3, h4, h5, h6, h7⟩ := hG
            have h8 := h6 (hall 10 (by decide) rfl)
            have h9 := h7 (hall 11 (by decide) rfl)
            rw [← h9] at h8
            simp only [fillT, fillP, List.foldl_cons, List.foldl_nil, Act.put]
            clear h9
            go_wp2_with fail
            refine ⟨⟨k + 1, by omega, by go_num, h1, h2, h3, h8⟩, by simp [intOf]; omega⟩
        · obtain rfl : k = 16 := by omega
          go_wp2_with fail
          go_ret
          refine ⟨_, rfl, ?_, ?_⟩ <;> rw [hB]
          · exact inv.b
          · rw [show block key c nonce = outK sr s0 16 from by rw [block, HS.out (), HSR.out ()], outK_len]
            exact ownsRow_mono hown (by have := inv.h; omega)
end Go.Proofs.YtmjjnaaiakchhaaDoor
