/-
  (*poly.Mac).Sum.
-/
import Derived.Test.YtmjjnaaiakchhaaJoin
import Derived.Test.YtmjjnaaiakchhaaWrite
import Derived.Test.YtmjjnaaiakchhaaFlow
namespace Go.Proofs.Ytmjjnaaiakchhaa
open Go.RowKit

theorem macC_one (held : Value) (r0 r1 s0 s1 s2 a0 a1 a2 : Int) (on : Bool) (hh : held.oneCell' = true) : ∀ y ∈ macC held r0 r1 s0 s1 s2 a0 a1 a2 on, y.oneCell' = true := by
  intro y hy
  simp only [macC, List.mem_cons, List.not_mem_nil, or_false] at hy
  rcases hy with rfl | rfl | rfl | rfl | rfl | rfl | rfl | rfl | rfl | rfl <;> first | exact hh | rfl

set_option maxRecDepth 100000 in
set_option maxHeartbeats 8000000 in
theorem macsum_any (w : World) (g : Nat) (key xs : List Int) {S : Nat → Prop} (hkb : IsB key) (hxs : IsB xs) (hk : key.length = 32) (hm : Mac w g key xs S) :
    Calls Try.prog 16 #[.pointer (some ⟨g, 0, none⟩)] w fun e w' => e = .returned (.agg (bs (tagL key xs)).toArray) ∧ Below w.heap.size w w' := by
  obtain ⟨held, r0, r1, s0, s1, s2, a0, a1, a2, hm, _⟩ := hm
  obtain ⟨B, hB⟩ : ∃ B, w.heap.size = B := ⟨_, rfl⟩
  have HM := Lib.hid hm
  have HCV := Lib.hid (clampV hkb)
  have HXS := Lib.hid hxs
  have HKB := Lib.hid hkb
  have HK := Lib.hid hk
  have hgl := hm.blk.lt
  obtain ⟨ht, hht⟩ : ∃ ht, xs.drop (16 * (xs.length / 16)) = ht := ⟨_, rfl⟩
  have hhl : ht.length = xs.length % 16 := by rw [← hht, List.length_drop]; omega
  have hheld := hm.held
  rw [hht] at hheld
  obtain ⟨A, c, hv, hc1, hc2, _⟩ := id hheld.rd
  rw [bs_len] at hv hc1
  subst hv
  unfold maxLen at hc2
  have HT := Lib.hid (fun _ : Unit => (⟨hht, hhl⟩ : xs.drop (16 * (xs.length / 16)) = ht ∧ ht.length = xs.length % 16))
  have HP := Lib.hid hheld
  have m9 := hm.blk.at_ 9 rfl
  clear hm hkb hxs hheld hht hk hhl
  go_enter Try.func16, Try.ntmps16
  go_upto_region 2 with fail
  change Code.wp _ _ _ _ ((w.alloc (.cells (bs (List.replicate 16 0)).toArray 35)).alloc (.cells (bs (List.replicate 16 0)).toArray 35))
  have b0 : Blk ((w.alloc (.cells (bs (List.replicate 16 0)).toArray 35)).alloc (.cells (bs (List.replicate 16 0)).toArray 35)) B (bs (List.replicate 16 0)) 35 := (Blk.mk_ _ hB.symm rfl).al _
  have b1 : Blk ((w.alloc (.cells (bs (List.replicate 16 0)).toArray 35)).alloc (.cells (bs (List.replicate 16 0)).toArray 35)) (B + 1) (bs (List.replicate 16 0)) 35 := Blk.mk_ _ (by simp [hB]) rfl
  have bb : Below B w ((w.alloc (.cells (bs (List.replicate 16 0)).toArray 35)).alloc (.cells (bs (List.replicate 16 0)).toArray 35)) := bw_al (bw_al (Below.refl _ _) (by omega) _) (by simp; omega) _
  generalize ((w.alloc (.cells (bs (List.replicate 16 0)).toArray 35)).alloc (.cells (bs (List.replicate 16 0)).toArray 35)) = w1 at *
  rw [hB] at hgl
  have hm1 := HM.out.blk.keep bb hgl
  have m9' := hm1.at_ 9 rfl
  have hB1 : B + 1 < w1.heap.size := b1.lt
  have HB := Lib.hid (⟨b0, b1, bb⟩ : _ ∧ _ ∧ _)
  have kr := load_fact hm1 47 1 (ys := [.int .u64 r0, .int .u64 r1]) rfl Try.underlying47 rfl (n := 2) (by kernel_rfl) rfl
  have ka := load_fact hm1 49 6 (ys := [.int .u64 a0, .int .u64 a1, .int .u64 a2]) rfl Try.underlying49 rfl (n := 3) (by kernel_rfl) rfl
  have ks := load_fact hm1 49 3 (ys := uq [s0, s1, s2]) rfl Try.underlying49 rfl (n := 3) (by kernel_rfl) rfl
  have k0 : ∀ w', Below w1.heap.size w1 w' → w'.cell? ⟨g, 0, none⟩ = some (.slice A ht.length c) := fun w' h => (hm1.stay h).at_ 0 rfl
  have HM1 := Lib.hid hm1
  clear b0 b1 bb m9 hm1
  go_upto_region 4 with fail
  have hbl0 : Below w1.heap.size w1 w1.drew := bw_d1 (Below.refl _ _)
  refine region_plan ⟨[0, 1, 3, 7, 0, 16, 48, 112, 255, 0, 1023], [9, 10], [0, 0, 0, 0, 0, 0, 0, 0, 0, 0, 1]⟩
    [⟨[0, 1, 2, 3, 4, 5, 6, 7, 8], [1, 2, 3, 5, 6, 7, 8], some 9⟩, ⟨[], [1, 2, 3, 5, 6, 7, 8], some 10⟩, ⟨[], [], none⟩] 57 (by kernel_rfl) (by kernel_rfl) (by kernel_rfl) (by kernel_rfl) rfl ?_
  simp only [SeqGo, opsAt_cons, opsAt_nil, List.getElem?_cons, Option.toList_some, List.singleton_append, ↓reduceIte, Nat.reduceEqDiff, Nat.reduceSub]
  go_wp2_with (first
    | (refine wp_load_f rfl 47 (.tmp 18) rfl rfl (kr _ (by assumption)) ?_)
    | (refine wp_load_f rfl 49 (.tmp 22) rfl rfl (ka _ (by assumption)) ?_))
  refine ⟨by
    simp only [Sames]
    refine ⟨?_, ?_, ?_, ?_, ?_, ?_, ?_, trivial⟩
    all_goals first
      | exact same_load rfl 47 (.tmp 18) rfl rfl (kr _ (by assumption)) rfl
      | exact same_load rfl 49 (.tmp 22) rfl rfl (ka _ (by assumption)) rfl
      | (simp only [Same]; go_simp), ?_⟩
  go_wp2_with fail
  refine ⟨by
    simp only [Sames]
    refine ⟨?_, ?_, ?_, ?_, ?_, ?_, ?_, trivial⟩
    all_goals first
      | exact same_load rfl 47 (.tmp 18) rfl rfl (kr _ (by first | exact bw_d1 (bw_al (Below.refl _ _) (Nat.le_refl _) _) | exact bw_al (bw_d1 (Below.refl _ _)) (Nat.le_refl _) _)) rfl
      | exact same_load rfl 49 (.tmp 22) rfl rfl (ka _ (by first | exact bw_d1 (bw_al (Below.refl _ _) (Nat.le_refl _) _) | exact bw_al (bw_d1 (Below.refl _ _)) (Nat.le_refl _) _)) rfl
      | (simp only [Same]; go_simp), ?_⟩
  --TAIL
  go_upto_region 5 with (refine wp_store_blk rfl 51 (.tmp 4) (.tmp 24) rfl rfl rfl (cs := macC (.slice none 0 0) 0 0 0 0 0 0 0 0 false) (cs' := macC (.slice none 0 0) r0 r1 0 0 0 a0 a1 a2 false) (Blk.d1 (Blk.mk_ _ rfl rfl)) (macC_one _ _ _ _ _ _ _ _ _ _ rfl) rfl (n := 10) (by kernel_rfl) rfl ?_; intro w2 hbx hon)
  refine ⟨trivial, ?_⟩
  go_upto_region 5 with fail
  have bl2 : Below w1.heap.size w1 w2 := hon.below (bw_d1 (bw_al (Below.refl _ _) (Nat.le_refl _) _)) (Nat.le_refl _)
  obtain ⟨g4, hg4⟩ : ∃ g4, w1.heap.size = g4 := ⟨_, rfl⟩
  have HBX := Lib.hid (show Blk w2 g4 (macC (.slice none 0 0) r0 r1 0 0 0 a0 a1 a2 false) 51 from by rw [← hg4]; exact hbx)
  have HG4 := Lib.hid (fun _ : Unit => hg4)
  have hB14 : B + 1 < g4 := by omega
  simp only [hg4]
  clear hbx hon kr ka hbl0 hg4 m9'
  by_cases hh : ht.length = 0
  · have hnp : ¬ (0 : Int) < (ht.length : Int) := by omega
    have HAC := Lib.hid (show AccOk [a0, a1, a2] (hK (leV (clampL key)) xs ((xs.length + 15) / 16)) from by
      have h := HM.out.acc
      have h2 := (HT.out ()).2
      rwa [show (xs.length + 15) / 16 = xs.length / 16 by omega])
    have F4 := HBX
    have bl3 := bl2
    have NW := Lib.hid HAC.out.2.1
    have SR := Lib.hid (fun _ : Unit => (show leW [a0, a1, a2] % pr + leW [s0, s1, s2] < 6277101735386680763835789423207666416102355444464034512896 from by
      have h1 := hK_range (leV (clampL key)) xs ((xs.length + 15) / 16)
      have h2 := HAC.out.2.2.2
      have h3 := HM.out.sv
      have h4 := leV_range (xs := (key.drop 16).take 16) fun z hz => HKB.out z (List.mem_of_mem_drop (List.mem_of_mem_take hz))
      rw [List.length_take, List.length_drop, HK.out, show (256 : Int) ^ min 16 (32 - 16) = 340282366920938463463374607431768211456 by decide] at h4
      rw [h2, h3]
      unfold pr at h1
      omega))
    go_upto_region 7 with fail
    refine region_draws [(38, ?v38), (39, .agg (uq [a0, a1, a2]).toArray), (41, ?v41), (42, ?v42), (43, ?v43), (44, .agg (uq [s0, s1, s2]).toArray)] [40, 45, 5]
      (fun L T wx => Below w2.heap.size w2 wx ∧ (L 2 = true → ∃ l : List Int, T 40 = .agg (uq l).toArray ∧ l.length = 3 ∧ IsW l ∧ leW l = leW [a0, a1, a2] % pr) ∧ (L 7 = true → ∃ y : List Int, T 45 = .agg (uq y).toArray ∧ y.length = 3 ∧ IsW y ∧ leW y = leW [a0, a1, a2] % pr + leW [s0, s1, s2]) ∧
        (L 8 = true → ∃ g9, T 5 = .pointer (some ⟨g9, 0, none⟩) ∧ w2.heap.size ≤ g9 ∧ (L 9 = false → Blk wx g9 (uq [0, 0, 0]) 49) ∧ (L 9 = true → ∃ y : List Int, T 45 = .agg (uq y).toArray ∧ Blk wx g9 (uq y) 49)))
      (fun _ => undef) (by kernel_rfl) (by kernel_rfl) 57 rfl (by kernel_rfl) ?g0 ?hops ?hend
    case g0 => exact ⟨bw_d1 (Below.refl _ _), (fun h => by simp at h), (fun h => by simp at h), (fun h => by simp at h)⟩
    case hops =>
      simp only [AllFrom]
      refine ⟨?_, ?_, ?_, ?_, ?_, ?_, ?_, ?_, ?_, ?_, trivial⟩
      · (intro L T w hpre hpost hG; skip; first | exact .inl ⟨rfl, rfl⟩ | (refine .inl ⟨rfl, ?_⟩; simp only [execOp]; go_simp; (try go_ints); (try go_simp); (try rw [if_pos (by omega)]); (first | done | rfl)))
      · (intro L T w hpre hpost hG; exact .inl ⟨rfl, exec_load_sub 49 (.tmp 38) rfl rfl ((F4.out.stay hG.1).part 6 rfl) Try.underlying49 rfl (n := 3) (by kernel_rfl) rfl⟩)
      · intro L T w hL hpre hpost hG
        obtain ⟨h1, h2, h3, h4⟩ := hG
        refine .inl ⟨rfl, fun a K hK => ?_⟩
        simp only [execOp]
        go_simp
        refine (least_any w a0 a1 a2 NW.out).mono ?_
        rintro e w' ⟨l, rfl, q1, q2, q3, hb⟩
        refine hK _ _ ⟨bw_then h1 hb h1.size, fun _ => ⟨l, by simp, q1, q2, q3⟩, fun h => by simpa using h3 (by simpa using h), fun h => ?_⟩
        obtain ⟨g9, x1, x2, x3, x4⟩ := h4 (by simpa using h)
        refine ⟨g9, by simpa using x1, x2, fun h => (x3 (by simpa using h)).stay hb, fun h => ?_⟩
        obtain ⟨y, y1, y2⟩ := x4 (by simpa using h)
        exact ⟨y, by simpa using y1, y2.stay hb⟩
      · (intro L T w hpre hpost hG; skip; first | exact .inl ⟨rfl, rfl⟩ | (refine .inl ⟨rfl, ?_⟩; simp only [execOp]; go_simp; (try go_ints); (try go_simp); (try rw [if_pos (by omega)]); (first | done | rfl)))
      · (intro L T w hpre hpost hG; skip; first | exact .inl ⟨rfl, rfl⟩ | (refine .inl ⟨rfl, ?_⟩; simp only [execOp]; go_simp; (try go_ints); (try go_simp); (try rw [if_pos (by omega)]); (first | done | rfl)))
      · (intro L T w hpre hpost hG; skip; first | exact .inl ⟨rfl, rfl⟩ | (refine .inl ⟨rfl, ?_⟩; simp only [execOp]; go_simp; (try go_ints); (try go_simp); (try rw [if_pos (by omega)]); (first | done | rfl)))
      · (intro L T w hpre hpost hG; exact .inl ⟨rfl, exec_load_sub 49 (.tmp 43) rfl rfl (((HM1.out.stay bl3).stay hG.1).part 3 rfl) Try.underlying49 rfl (n := 3) (by kernel_rfl) rfl⟩)
      · intro L T w hL hpre hpost hG
        obtain ⟨h1, h2, h3, h4⟩ := hG
        obtain ⟨l, l1, l2, l3, l4⟩ := h2 (hpre 2 rfl rfl)
        refine .inl ⟨rfl, fun a K hK => ?_⟩
        simp only [execOp]
        go_simp
        try rw [l1]
        refine (add_any w l [s0, s1, s2] l2 rfl l3 HM.out.s).mono ?_
        rintro e w' ⟨rfl, hb⟩
        have hs : leW l + leW [s0, s1, s2] < 6277101735386680763835789423207666416102355444464034512896 := by rw [l4]; have := SR.out (); omega
        refine hK _ _ ⟨bw_then h1 hb h1.size, fun h => ⟨l, by simpa using l1, l2, l3, l4⟩, fun _ => ⟨addW l [s0, s1, s2], by simp, (addW_len _ _).trans l2, adK_isW l3 3, by rw [addW_val l2 rfl l3 HM.out.s hs, l4]⟩, fun h => ?_⟩
        obtain ⟨g9, x1, x2, x3, x4⟩ := h4 (by simpa using h)
        have h9 := hpost 9 _ rfl rfl
        refine ⟨g9, by simpa using x1, x2, fun h => (x3 h9).stay hb, fun h => by simp [h9] at h⟩
      · intro L T w hL hpre hpost hG
        obtain ⟨h1, h2, h3, h4⟩ := hG
        have h9 := hpost 9 _ rfl rfl
        refine .inl ⟨rfl, fun a K hK => ?_⟩
        simp only [execOp]
        go_simp
        have hsz := h1.size
        refine hK (.pointer (some ⟨w.heap.size, 0, none⟩)) _ ⟨bw_al h1 (by omega) _, fun h => by simpa using h2 (by simpa using h), fun h => by simpa using h3 (by simpa using h), fun _ => ⟨w.heap.size, by simp, by omega, fun _ => Blk.mk_ w rfl rfl, fun h => by simp [h9] at h⟩⟩
      · intro L T w hL hpre hpost hG
        obtain ⟨h1, h2, h3, h4⟩ := hG
        obtain ⟨y, y1, y2, y3, y4⟩ := h3 (hpre 7 rfl rfl)
        obtain ⟨g9, x1, x2, x3, x4⟩ := h4 (hpre 8 rfl rfl)
        refine .inl ⟨rfl, fun a K hK => ?_⟩
        have hl9 : (uq y).length = 3 := (uq_len y).trans y2
        refine upon_store_blk 49 (.tmp 5) (.tmp 45) rfl x1 y1 (x3 hL) (uq_one _) (hl9.trans rfl) (n := 3) (by kernel_rfl) hl9 fun w' hbn hon => hK undef _ ⟨hon.below h1 x2, fun h => by simpa using h2 (by simpa using h), fun _ => ⟨y, by simpa using y1, y2, y3, y4⟩, fun _ => ⟨g9, by simpa using x1, x2, fun h => by simp at h, fun _ => ⟨y, by simpa using y1, hbn⟩⟩⟩
    case hend =>
      intro L T w9 hall hG
      obtain ⟨h1, h2, h3, h4⟩ := hG
      obtain ⟨y, y1, y2, y3, y4⟩ := h3 (hall 7 (by decide) (by kernel_rfl))
      obtain ⟨g9, x1, x2, x3, x4⟩ := h4 (hall 8 (by decide) (by kernel_rfl))
      obtain ⟨y', y1', hb9⟩ := x4 (hall 9 (by decide) (by kernel_rfl))
      simp only [fillT, fillP, List.foldl_cons, List.foldl_nil, Act.put, x1, y1, List.setIfInBounds_toArray, List.set_cons_succ, List.set_cons_zero]
      have hyy : uq y' = uq y := by
        have h := y1'.symm.trans y1
        injection h with h
        have h6 := congrArg Array.toList h
        simpa using h6
      rw [hyy] at hb9
      obtain ⟨z0, z1, z2, rfl⟩ : ∃ a b c, y = [a, b, c] := match y, y2 with | [a, b, c], _ => ⟨a, b, c, rfl⟩
      have e0 := hb9.at_ 0 rfl
      have e1 := hb9.at_ 1 rfl
      have hz0 := y3 z0 (by simp)
      have hz1 := y3 z1 (by simp)
      have hz2 := y3 z2 (by simp)
      have hval : lowN z0 8 ++ lowN z1 8 = tagL key xs := by
        refine leV_inj (fun z hz => by rcases List.mem_append.1 hz with hz | hz <;> exact lowN_isB _ _ z hz) (lowN_isB _ _) (by rw [List.length_append, lowN_len, lowN_len, tagL, lowN_len]) ?_
        rw [tagL, leV_append, lowN_len, leV_lowN _ _ hz0.1, leV_lowN _ _ hz1.1, leV_lowN _ _ (by
          have h1 := (hK_range (leV (clampL key)) xs ((xs.length + 15) / 16)).1
          have h4 := (leV_range (xs := (key.drop 16).take 16) fun z hz => HKB.out z (List.mem_of_mem_drop (List.mem_of_mem_take hz))).1
          omega), ← HAC.out.2.2.2, ← HM.out.sv, ← y4]
        rw [show (256 : Int) ^ 8 = 18446744073709551616 by decide, show (256 : Int) ^ 16 = 340282366920938463463374607431768211456 by decide]
        simp only [leW]
        omega
      have HVAL := Lib.hid (fun _ : Unit => hval)
      have k0 : ∀ w', Below w9.heap.size w9 w' → w'.cell? ⟨g9, 0, none⟩ = some (.int .u64 z0) := fun w' h => (hb9.stay h).at_ 0 rfl
      have k1 : ∀ w', Below w9.heap.size w9 w' → w'.cell? ⟨g9, 1, none⟩ = some (.int .u64 z1) := fun w' h => (hb9.stay h).at_ 1 rfl
      have s16 := fun w => slice16 w (B + 1)
      have bl9 : Below w1.heap.size w1 w9 := bl3.trans (h1.mono bl3.size)
      have BL9 := Lib.hid bl9
      clear h2 h3 h4 x1 x3 x4 hall y1 y1' hb9 hyy hval y3 y4 L h1
      go_upto_region 8 with fail
      have hbl0 : Below w9.heap.size w9 w9.drew := bw_d1 (Below.refl _ _)
      refine region_plan ⟨[0, 0, 2, 6, 0, 16, 62, 126, 254, 511], [3, 6, 7, 8, 9], [0, 0, 0, 0, 0, 0, 1, 2, 3, 4]⟩
        [⟨[0, 1, 2, 4, 5], [0, 1, 2, 4, 5], some 3⟩, ⟨[], [0, 4, 5], some 6⟩, ⟨[], [0], some 7⟩, ⟨[], [0], some 8⟩, ⟨[], [0], some 9⟩, ⟨[], [], none⟩] 57 (by kernel_rfl) (by kernel_rfl) (by kernel_rfl) (by kernel_rfl) rfl ?_
      simp only [SeqGo, opsAt_cons, opsAt_nil, List.getElem?_cons, Option.toList_some, List.singleton_append, ↓reduceIte, Nat.reduceEqDiff, Nat.reduceSub]
      go_wp2_with fail
      refine ⟨by (simp only [Sames, Same]; go_simp), ?_⟩
      go_wp2_with (go_at_call 30; refine (putLe64_any _ [] z0 _ (Rd.nil _) (by decide) hz0.1).mono ?_; rintro e wa ⟨va, rfl, hba, hoa⟩; obtain ⟨Aa, ca, rfl, _⟩ := id (Rd.of_own hoa); have hbla := bw_then hbl0 hba hbl0.size; have HRA := Lib.hid (Rd.of_own hoa); clear hoa)
      refine ⟨by (simp only [Sames, Same]; go_simp), ?_⟩
      go_wp2_with (go_at_call 30; refine (putLe64_any _ [] z1 _ (Rd.nil _) (by decide) hz1.1).mono ?_; rintro e wb ⟨vb, rfl, hbb, hob⟩; obtain ⟨Ab, cb, rfl, _⟩ := id (Rd.of_own hob); have hblb := bw_then hbla hbb hbla.size; have HRB := Lib.hid (Rd.of_own hob); clear hob)
      refine ⟨by (simp only [Sames, Same]; go_simp), ?_⟩
      go_wp2_with fail
      refine ⟨by (simp only [Sames, Same]; go_simp), ?_⟩
      go_wp2_with (go_at_call 29; refine (join2_any _ wb.heap.size _ _ 33 (lowN z0 8) (lowN z1 8) (by first | exact Blk.mk_ _ rfl rfl | exact Blk.d1 (Blk.mk_ _ rfl rfl)) ((HRA.out.stay hbb (Nat.le_refl _)).stay (bw_al (Below.refl _ _) (Nat.le_refl _) _) (Nat.le_refl _)) (HRB.out.stay (bw_al (Below.refl _ _) (Nat.le_refl _) _) (Nat.le_refl _)) (by rw [lowN_len, lowN_len]; decide)).mono ?_; rintro e wj ⟨vj, rfl, hrj, hbj⟩; have hblj := bw_then (bw_al hblb hblb.size _) hbj (by have := hblb.size; simp; omega))
      refine ⟨by (simp only [Sames, Same]; go_simp), ?_⟩
      have hblw := BL9.out.trans (hblj.mono BL9.out.size)
      have hjl : (bs (lowN z0 8 ++ lowN z1 8)).length = 16 := by rw [bs_len, List.length_append, lowN_len, lowN_len]
      have HRJ := Lib.hid hrj
      clear hrj
      go_wp2_with (refine wp_copy (.tmp 46) (.tmp 54) 33 33 rfl rfl 5 Try.underlying33 (by kernel_rfl) rfl rfl HRJ.out (by rw [hjl]; decide) (by rw [hjl]; exact Nat.le_refl _) (HB.out.2.1.stay hblw) (by rw [hjl]; decide) (bs_one _) ?_; intro wk hbk honk)
      refine ⟨trivial, ?_⟩
      rw [hjl] at hbk
      have hbk2 : Blk wk (B + 1) (bs (tagL key xs)) 35 := by
        rw [← HVAL.out ()]
        rw [Nat.zero_add, List.drop_of_length_le (by rw [bs_len, List.length_replicate]; exact Nat.le_refl _), List.take_zero, List.nil_append, List.append_nil] at hbk
        exact hbk
      have htl : (bs (tagL key xs)).length = 16 := by rw [bs_len, tagL, lowN_len]
      have hbB := (HB.out.1.stay hblw).only honk (by omega)
      have HBW := Lib.hid (honk.below (bw_then HB.out.2.2 hblw (by omega)) (by omega))
      clear hbk
      go_wp2_with (first
        | (refine wp_load_blk rfl 35 (.tmp 3) rfl rfl hbk2 Try.underlying35 rfl (n := 16) (by kernel_rfl) htl ?_)
        | (refine wp_store_blk rfl 35 (.tmp 2) (.tmp 56) rfl rfl rfl hbB (bs_one _) (by rw [htl]; rfl) (n := 16) (by kernel_rfl) htl ?_; intro wz hbz honz))
      refine ret_blk rfl rfl hbz Try.underlying35 rfl (n := 16) (by kernel_rfl) htl rfl ?_
      exact ⟨rfl, by rw [hB]; exact honz.below HBW.out (Nat.le_refl _)⟩
  · have hnp : (0 : Int) < (ht.length : Int) := by omega
    have hp2 : Rd w2 (.slice A ht.length c) (bs ht) := by
      have h1 := HP.out.rd
      have h2 := h1.stay HB.out.2.2 (by omega)
      exact h2.stay bl2 (Nat.le_refl _)
    have hbt : IsB ht := fun z hz => by rw [← (HT.out ()).1] at hz; exact HXS.out z (List.mem_of_mem_drop hz)
    have ST := Lib.hid (step_any w2 g4 (.slice none 0 0) r0 r1 0 0 0 a0 a1 a2 false _ _ ht HBX.out HM.out.r (by rw [HM.out.rv]; exact HCV.out) HM.out.acc hp2 hbt (by have := (HT.out ()).2; omega))
    go_upto_region 7 with (go_at_call 26; refine ST.out.mono ?_; rintro e w3 ⟨rfl, n0, n1, n2, hac, hbk, hts⟩)
    have HAC := Lib.hid (show AccOk [n0, n1, n2] (hK (leV (clampL key)) xs ((xs.length + 15) / 16)) from by
      have h2 := HT.out ()
      rw [HM.out.rv] at hac
      rw [show (xs.length + 15) / 16 = xs.length / 16 + 1 by omega, hK, h2.1, List.take_of_length_le (by omega)]
      exact hac)
    have F4 := Lib.hid hbk
    have bl3 : Below w1.heap.size w1 w3 := bl2.trans ⟨hts.os, hts.tape, hts.output, hts.size, fun j hj => hts.block j (by have := bl2.size; omega) (by have := HG4.out (); omega)⟩
    clear hac hbk hts hp2 hbt
    have NW := Lib.hid HAC.out.2.1
    have SR := Lib.hid (fun _ : Unit => (show leW [n0, n1, n2] % pr + leW [s0, s1, s2] < 6277101735386680763835789423207666416102355444464034512896 from by
      have h1 := hK_range (leV (clampL key)) xs ((xs.length + 15) / 16)
      have h2 := HAC.out.2.2.2
      have h3 := HM.out.sv
      have h4 := leV_range (xs := (key.drop 16).take 16) fun z hz => HKB.out z (List.mem_of_mem_drop (List.mem_of_mem_take hz))
      rw [List.length_take, List.length_drop, HK.out, show (256 : Int) ^ min 16 (32 - 16) = 340282366920938463463374607431768211456 by decide] at h4
      rw [h2, h3]
      unfold pr at h1
      omega))
    refine region_draws [(38, ?v38), (39, .agg (uq [n0, n1, n2]).toArray), (41, ?v41), (42, ?v42), (43, ?v43), (44, .agg (uq [s0, s1, s2]).toArray)] [40, 45, 5]
      (fun L T wx => Below w3.heap.size w3 wx ∧ (L 2 = true → ∃ l : List Int, T 40 = .agg (uq l).toArray ∧ l.length = 3 ∧ IsW l ∧ leW l = leW [n0, n1, n2] % pr) ∧ (L 7 = true → ∃ y : List Int, T 45 = .agg (uq y).toArray ∧ y.length = 3 ∧ IsW y ∧ leW y = leW [n0, n1, n2] % pr + leW [s0, s1, s2]) ∧
        (L 8 = true → ∃ g9, T 5 = .pointer (some ⟨g9, 0, none⟩) ∧ w3.heap.size ≤ g9 ∧ (L 9 = false → Blk wx g9 (uq [0, 0, 0]) 49) ∧ (L 9 = true → ∃ y : List Int, T 45 = .agg (uq y).toArray ∧ Blk wx g9 (uq y) 49)))
      (fun _ => undef) (by kernel_rfl) (by kernel_rfl) 57 rfl (by kernel_rfl) ?g0 ?hops ?hend
    case g0 => exact ⟨bw_d1 (Below.refl _ _), (fun h => by simp at h), (fun h => by simp at h), (fun h => by simp at h)⟩
    case hops =>
      simp only [AllFrom]
      refine ⟨?_, ?_, ?_, ?_, ?_, ?_, ?_, ?_, ?_, ?_, trivial⟩
      · (intro L T w hpre hpost hG; skip; first | exact .inl ⟨rfl, rfl⟩ | (refine .inl ⟨rfl, ?_⟩; simp only [execOp]; go_simp; (try go_ints); (try go_simp); (try rw [if_pos (by omega)]); (first | done | rfl)))
      · (intro L T w hpre hpost hG; exact .inl ⟨rfl, exec_load_sub 49 (.tmp 38) rfl rfl ((F4.out.stay hG.1).part 6 rfl) Try.underlying49 rfl (n := 3) (by kernel_rfl) rfl⟩)
      · intro L T w hL hpre hpost hG
        obtain ⟨h1, h2, h3, h4⟩ := hG
        refine .inl ⟨rfl, fun a K hK => ?_⟩
        simp only [execOp]
        go_simp
        refine (least_any w n0 n1 n2 NW.out).mono ?_
        rintro e w' ⟨l, rfl, q1, q2, q3, hb⟩
        refine hK _ _ ⟨bw_then h1 hb h1.size, fun _ => ⟨l, by simp, q1, q2, q3⟩, fun h => by simpa using h3 (by simpa using h), fun h => ?_⟩
        obtain ⟨g9, x1, x2, x3, x4⟩ := h4 (by simpa using h)
        refine ⟨g9, by simpa using x1, x2, fun h => (x3 (by simpa using h)).stay hb, fun h => ?_⟩
        obtain ⟨y, y1, y2⟩ := x4 (by simpa using h)
        exact ⟨y, by simpa using y1, y2.stay hb⟩
      · (intro L T w hpre hpost hG; skip; first | exact .inl ⟨rfl, rfl⟩ | (refine .inl ⟨rfl, ?_⟩; simp only [execOp]; go_simp; (try go_ints); (try go_simp); (try rw [if_pos (by omega)]); (first | done | rfl)))
      · (intro L T w hpre hpost hG; skip; first | exact .inl ⟨rfl, rfl⟩ | (refine .inl ⟨rfl, ?_⟩; simp only [execOp]; go_simp; (try go_ints); (try go_simp); (try rw [if_pos (by omega)]); (first | done | rfl)))
      · (intro L T w hpre hpost hG; skip; first | exact .inl ⟨rfl, rfl⟩ | (refine .inl ⟨rfl, ?_⟩; simp only [execOp]; go_simp; (try go_ints); (try go_simp); (try rw [if_pos (by omega)]); (first | done | rfl)))
      · (intro L T w hpre hpost hG; exact .inl ⟨rfl, exec_load_sub 49 (.tmp 43) rfl rfl (((HM1.out.stay bl3).stay hG.1).part 3 rfl) Try.underlying49 rfl (n := 3) (by kernel_rfl) rfl⟩)
      · intro L T w hL hpre hpost hG
        obtain ⟨h1, h2, h3, h4⟩ := hG
        obtain ⟨l, l1, l2, l3, l4⟩ := h2 (hpre 2 rfl rfl)
        refine .inl ⟨rfl, fun a K hK => ?_⟩
        simp only [execOp]
        go_simp
        try rw [l1]
        refine (add_any w l [s0, s1, s2] l2 rfl l3 HM.out.s).mono ?_
        rintro e w' ⟨rfl, hb⟩
        have hs : leW l + leW [s0, s1, s2] < 6277101735386680763835789423207666416102355444464034512896 := by rw [l4]; have := SR.out (); omega
        refine hK _ _ ⟨bw_then h1 hb h1.size, fun h => ⟨l, by simpa using l1, l2, l3, l4⟩, fun _ => ⟨addW l [s0, s1, s2], by simp, (addW_len _ _).trans l2, adK_isW l3 3, by rw [addW_val l2 rfl l3 HM.out.s hs, l4]⟩, fun h => ?_⟩
        obtain ⟨g9, x1, x2, x3, x4⟩ := h4 (by simpa using h)
        have h9 := hpost 9 _ rfl rfl
        refine ⟨g9, by simpa using x1, x2, fun h => (x3 h9).stay hb, fun h => by simp [h9] at h⟩
      · intro L T w hL hpre hpost hG
        obtain ⟨h1, h2, h3, h4⟩ := hG
        have h9 := hpost 9 _ rfl rfl
        refine .inl ⟨rfl, fun a K hK => ?_⟩
        simp only [execOp]
        go_simp
        have hsz := h1.size
        refine hK (.pointer (some ⟨w.heap.size, 0, none⟩)) _ ⟨bw_al h1 (by omega) _, fun h => by simpa using h2 (by simpa using h), fun h => by simpa using h3 (by simpa using h), fun _ => ⟨w.heap.size, by simp, by omega, fun _ => Blk.mk_ w rfl rfl, fun h => by simp [h9] at h⟩⟩
      · intro L T w hL hpre hpost hG
        obtain ⟨h1, h2, h3, h4⟩ := hG
        obtain ⟨y, y1, y2, y3, y4⟩ := h3 (hpre 7 rfl rfl)
        obtain ⟨g9, x1, x2, x3, x4⟩ := h4 (hpre 8 rfl rfl)
        refine .inl ⟨rfl, fun a K hK => ?_⟩
        have hl9 : (uq y).length = 3 := (uq_len y).trans y2
        refine upon_store_blk 49 (.tmp 5) (.tmp 45) rfl x1 y1 (x3 hL) (uq_one _) (hl9.trans rfl) (n := 3) (by kernel_rfl) hl9 fun w' hbn hon => hK undef _ ⟨hon.below h1 x2, fun h => by simpa using h2 (by simpa using h), fun _ => ⟨y, by simpa using y1, y2, y3, y4⟩, fun _ => ⟨g9, by simpa using x1, x2, fun h => by simp at h, fun _ => ⟨y, by simpa using y1, hbn⟩⟩⟩
    case hend =>
      intro L T w9 hall hG
      obtain ⟨h1, h2, h3, h4⟩ := hG
      obtain ⟨y, y1, y2, y3, y4⟩ := h3 (hall 7 (by decide) (by kernel_rfl))
      obtain ⟨g9, x1, x2, x3, x4⟩ := h4 (hall 8 (by decide) (by kernel_rfl))
      obtain ⟨y', y1', hb9⟩ := x4 (hall 9 (by decide) (by kernel_rfl))
      simp only [fillT, fillP, List.foldl_cons, List.foldl_nil, Act.put, x1, y1, List.setIfInBounds_toArray, List.set_cons_succ, List.set_cons_zero]
      have hyy : uq y' = uq y := by
        have h := y1'.symm.trans y1
        injection h with h
        have h6 := congrArg Array.toList h
        simpa using h6
      rw [hyy] at hb9
      obtain ⟨z0, z1, z2, rfl⟩ : ∃ a b c, y = [a, b, c] := match y, y2 with | [a, b, c], _ => ⟨a, b, c, rfl⟩
      have e0 := hb9.at_ 0 rfl
      have e1 := hb9.at_ 1 rfl
      have hz0 := y3 z0 (by simp)
      have hz1 := y3 z1 (by simp)
      have hz2 := y3 z2 (by simp)
      have hval : lowN z0 8 ++ lowN z1 8 = tagL key xs := by
        refine leV_inj (fun z hz => by rcases List.mem_append.1 hz with hz | hz <;> exact lowN_isB _ _ z hz) (lowN_isB _ _) (by rw [List.length_append, lowN_len, lowN_len, tagL, lowN_len]) ?_
        rw [tagL, leV_append, lowN_len, leV_lowN _ _ hz0.1, leV_lowN _ _ hz1.1, leV_lowN _ _ (by
          have h1 := (hK_range (leV (clampL key)) xs ((xs.length + 15) / 16)).1
          have h4 := (leV_range (xs := (key.drop 16).take 16) fun z hz => HKB.out z (List.mem_of_mem_drop (List.mem_of_mem_take hz))).1
          omega), ← HAC.out.2.2.2, ← HM.out.sv, ← y4]
        rw [show (256 : Int) ^ 8 = 18446744073709551616 by decide, show (256 : Int) ^ 16 = 340282366920938463463374607431768211456 by decide]
        simp only [leW]
        omega
      have HVAL := Lib.hid (fun _ : Unit => hval)
      have k0 : ∀ w', Below w9.heap.size w9 w' → w'.cell? ⟨g9, 0, none⟩ = some (.int .u64 z0) := fun w' h => (hb9.stay h).at_ 0 rfl
      have k1 : ∀ w', Below w9.heap.size w9 w' → w'.cell? ⟨g9, 1, none⟩ = some (.int .u64 z1) := fun w' h => (hb9.stay h).at_ 1 rfl
      have s16 := fun w => slice16 w (B + 1)
      have bl9 : Below w1.heap.size w1 w9 := bl3.trans (h1.mono bl3.size)
      have BL9 := Lib.hid bl9
      clear h2 h3 h4 x1 x3 x4 hall y1 y1' hb9 hyy hval y3 y4 L h1
      go_upto_region 8 with fail
      have hbl0 : Below w9.heap.size w9 w9.drew := bw_d1 (Below.refl _ _)
      refine region_plan ⟨[0, 0, 2, 6, 0, 16, 62, 126, 254, 511], [3, 6, 7, 8, 9], [0, 0, 0, 0, 0, 0, 1, 2, 3, 4]⟩
        [⟨[0, 1, 2, 4, 5], [0, 1, 2, 4, 5], some 3⟩, ⟨[], [0, 4, 5], some 6⟩, ⟨[], [0], some 7⟩, ⟨[], [0], some 8⟩, ⟨[], [0], some 9⟩, ⟨[], [], none⟩] 57 (by kernel_rfl) (by kernel_rfl) (by kernel_rfl) (by kernel_rfl) rfl ?_
      simp only [SeqGo, opsAt_cons, opsAt_nil, List.getElem?_cons, Option.toList_some, List.singleton_append, ↓reduceIte, Nat.reduceEqDiff, Nat.reduceSub]
      go_wp2_with fail
      refine ⟨by (simp only [Sames, Same]; go_simp), ?_⟩
      go_wp2_with (go_at_call 30; refine (putLe64_any _ [] z0 _ (Rd.nil _) (by decide) hz0.1).mono ?_; rintro e wa ⟨va, rfl, hba, hoa⟩; obtain ⟨Aa, ca, rfl, _⟩ := id (Rd.of_own hoa); have hbla := bw_then hbl0 hba hbl0.size; have HRA := Lib.hid (Rd.of_own hoa); clear hoa)
      refine ⟨by (simp only [Sames, Same]; go_simp), ?_⟩
      go_wp2_with (go_at_call 30; refine (putLe64_any _ [] z1 _ (Rd.nil _) (by decide) hz1.1).mono ?_; rintro e wb ⟨vb, rfl, hbb, hob⟩; obtain ⟨Ab, cb, rfl, _⟩ := id (Rd.of_own hob); have hblb := bw_then hbla hbb hbla.size; have HRB := Lib.hid (Rd.of_own hob); clear hob)
      refine ⟨by (simp only [Sames, Same]; go_simp), ?_⟩
      go_wp2_with fail
      refine ⟨by (simp only [Sames, Same]; go_simp), ?_⟩
      go_wp2_with (go_at_call 29; refine (join2_any _ wb.heap.size _ _ 33 (lowN z0 8) (lowN z1 8) (by first | exact Blk.mk_ _ rfl rfl | exact Blk.d1 (Blk.mk_ _ rfl rfl)) ((HRA.out.stay hbb (Nat.le_refl _)).stay (bw_al (Below.refl _ _) (Nat.le_refl _) _) (Nat.le_refl _)) (HRB.out.stay (bw_al (Below.refl _ _) (Nat.le_refl _) _) (Nat.le_refl _)) (by rw [lowN_len, lowN_len]; decide)).mono ?_; rintro e wj ⟨vj, rfl, hrj, hbj⟩; have hblj := bw_then (bw_al hblb hblb.size _) hbj (by have := hblb.size; simp; omega))
      refine ⟨by (simp only [Sames, Same]; go_simp), ?_⟩
      have hblw := BL9.out.trans (hblj.mono BL9.out.size)
      have hjl : (bs (lowN z0 8 ++ lowN z1 8)).length = 16 := by rw [bs_len, List.length_append, lowN_len, lowN_len]
      have HRJ := Lib.hid hrj
      clear hrj
      go_wp2_with (refine wp_copy (.tmp 46) (.tmp 54) 33 33 rfl rfl 5 Try.underlying33 (by kernel_rfl) rfl rfl HRJ.out (by rw [hjl]; decide) (by rw [hjl]; exact Nat.le_refl _) (HB.out.2.1.stay hblw) (by rw [hjl]; decide) (bs_one _) ?_; intro wk hbk honk)
      refine ⟨trivial, ?_⟩
      rw [hjl] at hbk
      have hbk2 : Blk wk (B + 1) (bs (tagL key xs)) 35 := by
        rw [← HVAL.out ()]
        rw [Nat.zero_add, List.drop_of_length_le (by rw [bs_len, List.length_replicate]; exact Nat.le_refl _), List.take_zero, List.nil_append, List.append_nil] at hbk
        exact hbk
      have htl : (bs (tagL key xs)).length = 16 := by rw [bs_len, tagL, lowN_len]
      have hbB := (HB.out.1.stay hblw).only honk (by omega)
      have HBW := Lib.hid (honk.below (bw_then HB.out.2.2 hblw (by omega)) (by omega))
      clear hbk
      go_wp2_with (first
        | (refine wp_load_blk rfl 35 (.tmp 3) rfl rfl hbk2 Try.underlying35 rfl (n := 16) (by kernel_rfl) htl ?_)
        | (refine wp_store_blk rfl 35 (.tmp 2) (.tmp 56) rfl rfl rfl hbB (bs_one _) (by rw [htl]; rfl) (n := 16) (by kernel_rfl) htl ?_; intro wz hbz honz))
      refine ret_blk rfl rfl hbz Try.underlying35 rfl (n := 16) (by kernel_rfl) htl rfl ?_
      exact ⟨rfl, by rw [hB]; exact honz.below HBW.out (Nat.le_refl _)⟩
end Go.Proofs.Ytmjjnaaiakchhaa
