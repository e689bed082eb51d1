/-
  disk: the law's example.
-/
import Derived.Test.YtlgcnnhlbkidmaaDiskD
import Derived.Lib.SlBytesConst
namespace Go.Proofs.Ytlgcnnhlbkidmaa
open Go.RowKit

def sA : ByteArray := ⟨#[97]⟩
def sBn : ByteArray := ⟨#[98]⟩
theorem rd_frz (w : World) (xs : List Int) (fr : Nat × Nat) (hl : xs.length ≤ 9223372036854775807) : Rd (w.alloc (.cells (bs xs).toArray 5 fr)) (.slice (some ⟨w.heap.size, 0, none⟩) xs.length xs.length) (bs xs) := by
  have e : (bs xs).length = xs.length := bs_len xs
  refine ⟨some ⟨w.heap.size, 0, none⟩, xs.length, by rw [e], by omega, by unfold maxLen; omega, (fun h => by cases h), .inr ⟨w.heap.size, 0, rfl, fun j hj => ?_⟩⟩
  have h : (w.alloc (.cells (bs xs).toArray 5 fr)).heap[w.heap.size]? = some (.cells (bs xs).toArray 5 fr) := heap_alloc_new w _
  generalize w.alloc (.cells (bs xs).toArray 5 fr) = w2 at *
  simp [World.cell?, h]
theorem conv_rd {w : World} {v : Value} {xs : List Int} (hr : Rd w v (bs xs)) : (convert 22 9 v).run Try.prog w = .ok (.string (strOf xs)) w := by
  obtain ⟨A, c, rfl, _⟩ := id hr
  exact run_conv w A _ c xs hr
theorem hold_new {w : World} {n c k : Nat} (h : hold (.slice (some ⟨w.heap.size, 0, none⟩) n c) k) : w.heap.size ≤ k := by
  obtain ⟨o, m, c', h⟩ := h
  cases h
  exact Nat.le_refl _
set_option maxRecDepth 100000 in
set_option maxHeartbeats 2000000 in
theorem awake09_any (w : World) : Calls Try.prog 50 #[] w fun e w' => e = .returned (.bool true) ∧ Below w.heap.size w w' := by
  have kc := fun (w : World) (C : Array Value) (n c : Nat) => Lib.run_convert_bytes_const (P := Try.prog) w 22 5 C n c Try.underlying22 Try.underlying5
  go_enter Try.func50, Try.ntmps50
  go_upto_region 2 with (first
    | (go_at_call 42; refine (plug_any w).mono ?_; rintro e w1 ⟨rfl, hp1, hb1, hs1⟩)
    | (go_at_call 54; refine (newdisk_any w1 (some w.heap.size)).mono ?_; rintro e w2 ⟨g, own, rfl, hd2, hb2⟩))
  have h2 := DP.made_ hp1 hb1 hs1 hd2 hb2
  have l2 : Below w.heap.size w w2 := bw_then hb1 hb2 hb1.size
  obtain ⟨gp, hgp⟩ : ∃ gp, w.heap.size = gp := ⟨_, rfl⟩
  rw [hgp] at h2
  have C1 := create_dp h2 sA (by decide)
  rw [show createS Pow.fresh [] sA = (0, Pow.fresh, [([97], ⟨[], 0⟩)]) from by rfl] at C1
  have C1 := Lib.hid C1
  have H2 := Lib.hid h2
  have HGP := Lib.hid (fun _ : Unit => hgp); have L2 := Lib.hid l2
  clear hp1 hb1 hs1 hd2 hb2 h2 hgp l2
  go_upto_region 3 with (first
    | (have _t := hd5; clear _t; go_at_call 56; have R5 := rd_frz w5 [100, 101] (2, 3) (by decide); have C := append_dp (hd5.stay (bw_al (Below.refl _ _) (Nat.le_refl _) (.cells (bs [100, 101]).toArray 5 (2, 3)))) sA (by decide) _ [100, 101] R5 (by intro z hz; simp at hz; omega) (fun _ k hk => hd5.new (hold_new hk)); rw [show appendS Pow.fresh [([97], ⟨[97, 98, 99], 3⟩)] sA [100, 101] = (0, Pow.fresh, [([97], ⟨[97, 98, 99, 100, 101], 3⟩)]) from by rfl] at C; refine C.mono ?_; rintro e w6 ⟨rfl, own6, hd6, ho6, ht6⟩)
    | (go_at_call 55; refine C1.out.mono ?_; rintro e w3 ⟨rfl, own3, hd3, ho3, ht3⟩)
    | (go_at_call 56; have R3 := rd_frz w3 [97, 98, 99] (3, 4) (by decide); have C := append_dp (hd3.stay (bw_al (Below.refl _ _) (Nat.le_refl _) (.cells (bs [97, 98, 99]).toArray 5 (3, 4)))) sA (by decide) _ [97, 98, 99] R3 (by intro z hz; simp at hz; omega) (fun _ k hk => hd3.new (hold_new hk)); rw [show appendS Pow.fresh [([97], ⟨[], 0⟩)] sA [97, 98, 99] = (0, Pow.fresh, [([97], ⟨[97, 98, 99], 0⟩)]) from by rfl] at C; refine C.mono ?_; rintro e w4 ⟨rfl, own4, hd4, ho4, ht4⟩)
    | (go_at_call 57; have C := sync_dp hd4 sA (by decide); rw [show syncS Pow.fresh [([97], ⟨[97, 98, 99], 0⟩)] sA = (0, Pow.fresh, [([97], ⟨[97, 98, 99], 3⟩)]) from by rfl] at C; refine C.mono ?_; rintro e w5 ⟨rfl, own5, hd5, ho5, ht5⟩))
  have l6 := hd5.stay (bw_al (Below.refl _ _) (Nat.le_refl _) (.cells (bs [100, 101]).toArray 5 (2, 3)))
  have l3 : Below gp w w3 := H2.out.below ht3 (by rw [← HGP.out ()]; exact L2.out)
  have l4 : Below gp w w4 := (hd3.stay (bw_al (Below.refl _ _) (Nat.le_refl _) (.cells (bs [97, 98, 99]).toArray 5 (3, 4)))).below ht4 (bw_al l3 hd3.lt _)
  have l5 : Below gp w w5 := hd4.below ht5 l4
  have l6' : Below gp w w6 := l6.below ht6 (bw_al l5 hd5.lt _)
  have R6 := Rd.one w6 (.int .i64 4) 3
  have C6 := crash_dp (hd6.stay (bw_al (Below.refl _ _) (Nat.le_refl _) (.cells #[.int .i64 4] 3))) (.slice (some ⟨w6.heap.size, 0, none⟩) 1 1) [4] R6 (fun _ k hk => (hd6.new (hold_new hk)).1)
  rw [show crashS [4] [([97], (⟨[97, 98, 99, 100, 101], 3⟩ : FileS))] = [([97], ⟨[97, 98, 99, 100], 4⟩)] from by rfl] at C6
  have C6 := Lib.hid C6; have L6 := Lib.hid (bw_al l6' hd6.lt (.cells #[.int .i64 4] 3)); have HD6 := Lib.hid (hd6.stay (bw_al (Below.refl _ _) (Nat.le_refl _) (.cells #[.int .i64 4] 3)))
  clear l6 l3 l4 l5 l6' hd3 hd4 hd5 hd6 ho3 ho4 ho5 ho6 ht3 ht4 ht5 ht6 R6 C1
  go_upto_region 4 with (go_at_call 58; refine C6.out.mono ?_; rintro e w7 ⟨rfl, hd7, ht7⟩)
  have l7 : Below gp w w7 := HD6.out.below ht7 L6.out
  have R7 := read_dp hd7 sA (by decide)
  rw [show thereS Pow.fresh [([97], (⟨[97, 98, 99, 100], 4⟩ : FileS))] sA = 0 from by rfl, show readF Pow.fresh [([97], (⟨[97, 98, 99, 100], 4⟩ : FileS))] sA = [97, 98, 99, 100] from by rfl] at R7
  have R7 := Lib.hid R7; have HD7 := Lib.hid hd7; have L7 := Lib.hid l7
  clear hd7 l7 ht7 C6 L6 HD6
  go_upto_region 5 with (go_at_call 59; refine R7.out.mono ?_; rintro e w8 ⟨v8, rfl, ho8, hi8, hb8⟩)
  have hcv := conv_rd (Rd.of_own ho8)
  rw [show strOf [97, 98, 99, 100] = ⟨#[97, 98, 99, 100]⟩ from by rfl] at hcv
  have hd8 := HD7.out.stay hb8
  have l8 := bw_then L7.out hb8 HD7.out.lt
  have A8 := append_dp hd8 sBn (by decide) (.slice none 0 0) [] (Rd.nil _) (fun z hz => by simp at hz) (fun _ k hk => by obtain ⟨_, _, _, h⟩ := hk; cases h)
  rw [show appendS Pow.fresh [([97], (⟨[97, 98, 99, 100], 4⟩ : FileS))] sBn [] = (9, Pow.fresh, [([97], ⟨[97, 98, 99, 100], 4⟩)]) from by rfl] at A8
  have A8 := Lib.hid A8; have HD8 := Lib.hid hd8; have L8 := Lib.hid l8
  clear ho8 hi8 hb8 hd8 l8
  go_wp2_with (go_at_call 56; refine A8.out.mono ?_; rintro e w9 ⟨rfl, own9, hd9, ho9, ht9⟩)
  all_goals go_ret
  refine ⟨rfl, ?_⟩
  have := HD8.out.below ht9 L8.out
  rw [← HGP.out ()] at this
  exact this
end Go.Proofs.Ytlgcnnhlbkidmaa
