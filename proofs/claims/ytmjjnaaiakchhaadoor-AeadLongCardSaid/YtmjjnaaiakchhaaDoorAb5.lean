/-
  Texts of mine in one: Join, PackD, First, Begin, Tab, AtArg, Quarter, At, Low, BlockR, Begun, BlockC, Build, Stream, StreamX, Xor, XorM, Pad, Fill, PolyT.
-/
import Derived.Test.YtmjjnaaiakchhaaDoorAb4
import Derived.Laws.CopyRow
import Derived.Deep.DeepCutAuto
import Derived.Test.YtmjjnaaiakchhaaDoorCards
import Derived.Deep.QuietTactic
import Derived.BigQuiet
import Derived.OwnWalk
import Derived.RegionTactic
import Derived.BigRegion
import Derived.Laws.BitsAllLaws
section
/-
  poly.least.
-/
namespace Go.Proofs.YtmjjnaaiakchhaaDoor
open Go.RowKit

theorem foldV_small {N : Int} (h0 : 0 ≤ N) (h : N < 6277101735386680763835789423207666416102355444464034512896) : 0 ≤ foldV (foldV N) ∧ foldV (foldV N) < 1361129467683753853853498429727072845824 := by
  have a1 : 0 ≤ foldV N ∧ foldV N < 1361129467683753853876556859919285567488 := by
    unfold foldV
    omega
  generalize foldV N = M at *
  unfold foldV
  omega
theorem least_val {N : Int} (h0 : 0 ≤ N) (h : N < 1361129467683753853853498429727072845824) : N % pr = if N + 5 < 1361129467683753853853498429727072845824 then N else N + 5 - 1361129467683753853853498429727072845824 := by
  unfold pr
  split
  · exact Int.emod_eq_of_lt h0 (by omega)
  · omega

set_option maxRecDepth 100000 in
set_option maxHeartbeats 4000000 in
theorem least_any (w : World) (a0 a1 a2 : Int) (ha : IsW [a0, a1, a2]) : Calls Tryd.prog 56 #[.agg (uq [a0, a1, a2]).toArray] w fun e w' => ∃ l : List Int, e = .returned (.agg (uq l).toArray) ∧ l.length = 3 ∧ IsW l ∧ leW l = leW [a0, a1, a2] % pr ∧ Below w.heap.size w w' := by
  obtain ⟨B, hB⟩ : ∃ B, w.heap.size = B := ⟨_, rfl⟩
  have HA := Lib.hid ha
  have hv : 0 ≤ leW [a0, a1, a2] ∧ leW [a0, a1, a2] < 6277101735386680763835789423207666416102355444464034512896 := by
    have h0 := ha a0 (by simp)
    have h1 := ha a1 (by simp)
    have h2 := ha a2 (by simp)
    simp only [leW]
    omega
  obtain ⟨N, hN⟩ : ∃ N, leW [a0, a1, a2] = N := ⟨_, rfl⟩
  rw [hN] at hv
  have HV := Lib.hid (fun _ : Unit => hv)
  have HNN := Lib.hid (fun _ : Unit => hN)
  clear ha hv hN
  go_enter Tryd.func56, Tryd.ntmps56
  go_upto_region 1 with fail
  change Code.wp _ _ _ _ ((w.alloc (.cells (uq [a0, a1, a2]).toArray 90)).alloc (.cells (uq [0, 0, 0]).toArray 90))
  have b0 : Blk ((w.alloc (.cells (uq [a0, a1, a2]).toArray 90)).alloc (.cells (uq [0, 0, 0]).toArray 90)) B (uq [a0, a1, a2]) 90 := (Blk.mk_ _ hB.symm rfl).al _
  have b1 : Blk ((w.alloc (.cells (uq [a0, a1, a2]).toArray 90)).alloc (.cells (uq [0, 0, 0]).toArray 90)) (B + 1) (uq [0, 0, 0]) 90 := Blk.mk_ _ (by simp [hB]) rfl
  have bb : Below B w ((w.alloc (.cells (uq [a0, a1, a2]).toArray 90)).alloc (.cells (uq [0, 0, 0]).toArray 90)) := bw_al (bw_al (Below.refl _ _) (by omega) _) (by simp; omega) _
  generalize ((w.alloc (.cells (uq [a0, a1, a2]).toArray 90)).alloc (.cells (uq [0, 0, 0]).toArray 90)) = w1 at *
  have HB0 := Lib.hid (⟨b0, b1, bb⟩ : _ ∧ _ ∧ _)
  clear b0 b1 bb
  go_wp2_with fail
  go_loopw [4] (fun x wr => ∃ (k : Nat) (c0 c1 c2 : Int), k ≤ 2 ∧ x = .int .i64 k ∧ Blk wr B (uq [c0, c1, c2]) 90 ∧ Blk wr (B + 1) (uq [0, 0, 0]) 90 ∧ IsW [c0, c1, c2] ∧ ((k = 0 ∧ leW [c0, c1, c2] = N) ∨ (k = 1 ∧ leW [c0, c1, c2] = foldV N) ∨ (k = 2 ∧ leW [c0, c1, c2] = foldV (foldV N))) ∧ Below B w wr) (fun x _ => 2 - (intOf x).toNat)
  case atStart => exact ⟨0, a0, a1, a2, by decide, rfl, HB0.out.1, HB0.out.2.1, HA.out, .inl ⟨rfl, HNN.out ()⟩, HB0.out.2.2⟩
  case round =>
    obtain ⟨k, c0, c1, c2, hk, rfl, h0, h1, hw, hc, hbl⟩ := hrel
    have d0 := h0.at_ 0 rfl
    have d1 := h0.at_ 1 rfl
    have d2 := h0.at_ 2 rfl
    have H0 := Lib.hid h0
    have H1 := Lib.hid h1
    have HW := Lib.hid hw
    have HC := Lib.hid (fun _ : Unit => hc)
    have HBL := Lib.hid hbl
    have hwl := hbl.size
    have hB1 : B + 1 < wr.heap.size := h1.lt
    clear h0 h1 hw hc hbl HB0
    by_cases hlt : k < 2
    · have hw4' : IsW [c0, c1, c2, 0] := fun z hz => by
        rcases List.mem_append.1 (show z ∈ [c0, c1, c2] ++ [0] from hz) with h | h
        · exact HW.out z h
        · simp at h; subst h; exact ⟨Int.le_refl _, by decide⟩
      have FO := Lib.hid (foldw2_any wr c0 c1 c2 0 hw4')
      clear hw4'
      go_wp2_with (first
        | (go_at_call 67; refine FO.out.mono ?_; rintro e w3 ⟨f, rfl, hf1, hf2, hf3, hb3⟩; have HF := Lib.hid (fun _ : Unit => (⟨hf1, hf2, hf3⟩ : f.length = 3 ∧ IsW f ∧ leW f = foldV (leW [c0, c1, c2, 0]))); clear hf1 hf2 hf3)
        | (refine wp_store_blk rfl 90 (.tmp 1) (.tmp 13) rfl rfl rfl (cs' := uq f) (H0.out.stay hb3) (uq_one _) (by rw [uq_len, (HF.out ()).1]; rfl) (n := 3) (by kernel_rfl) (by rw [uq_len, (HF.out ()).1]) ?_; intro w5 hbx hon))
      obtain ⟨hf1, hf2, hf3⟩ := HF.out ()
      obtain ⟨f0, f1, f2, rfl⟩ : ∃ a b c, f = [a, b, c] := match f, hf1 with | [a, b, c], _ => ⟨a, b, c, rfl⟩
      refine ⟨⟨k + 1, f0, f1, f2, by omega, by go_num, hbx, (H1.out.stay hb3).only hon (by omega), hf2, ?_, hon.below (bw_then HBL.out hb3 (by omega)) (Nat.le_refl _)⟩, by simp [intOf]; omega⟩
      have e : leW [c0, c1, c2, 0] = leW [c0, c1, c2] := by simp only [leW]; omega
      rw [hf3, e]
      rcases HC.out () with ⟨rfl, h⟩ | ⟨rfl, h⟩ | ⟨rfl, h⟩
      · right; left; exact ⟨rfl, by rw [h]⟩
      · right; right; exact ⟨rfl, by rw [h]⟩
      · omega
    · obtain rfl : k = 2 := by omega
      have hcv : leW [c0, c1, c2] = foldV (foldV N) := by
        rcases HC.out () with ⟨h, _⟩ | ⟨h, _⟩ | ⟨_, h⟩
        · omega
        · omega
        · exact h
      have hsm := foldV_small (HV.out ()).1 (HV.out ()).2
      have hmod : foldV (foldV N) % pr = N % pr := by rw [foldV_mod, foldV_mod]
      rw [← hcv] at hsm hmod
      have h5 : IsW [5, 0, 0] := fun z hz => by simp at hz; omega
      have AD := Lib.hid (add_any wr [c0, c1, c2] [5, 0, 0] rfl rfl HW.out h5)
      obtain ⟨u0, u1, u2, hu⟩ : ∃ u0 u1 u2, addW [c0, c1, c2] [5, 0, 0] = [u0, u1, u2] := ⟨_, _, _, rfl⟩
      rw [hu] at AD
      have huw : IsW [u0, u1, u2] := by rw [← hu]; exact adK_isW HW.out 3
      have huv : leW [u0, u1, u2] = leW [c0, c1, c2] + 5 := by
        rw [← hu, addW_val rfl rfl HW.out h5 (by simp only [leW]; simp only [leW] at hsm; omega)]
        rfl
      have hu2 := huw u2 (by simp)
      have aw := w_and3 hu2
      have lv := least_val hsm.1 hsm.2
      have HU := Lib.hid (fun _ : Unit => (⟨huv, hsm, hmod, lv⟩ : leW [u0, u1, u2] = leW [c0, c1, c2] + 5 ∧ (0 ≤ leW [c0, c1, c2] ∧ leW [c0, c1, c2] < 1361129467683753853853498429727072845824) ∧ leW [c0, c1, c2] % pr = N % pr ∧ leW [c0, c1, c2] % pr = if leW [c0, c1, c2] + 5 < 1361129467683753853853498429727072845824 then leW [c0, c1, c2] else leW [c0, c1, c2] + 5 - 1361129467683753853853498429727072845824))
      have HUW := Lib.hid huw
      clear hcv hsm hmod h5 hu huv lv d0 d1 d2 huw
      go_upto_region 6 with (first
        | (refine wp_load_blk rfl 90 (.tmp 1) rfl rfl H0.out Tryd.underlying90 rfl (n := 3) (by kernel_rfl) rfl ?_)
        | (go_at_call 57; refine AD.out.mono ?_; rintro e w3 ⟨rfl, hb3⟩)
        | (refine wp_store_blk rfl 90 (.tmp 3) (.tmp 17) rfl rfl rfl (cs := uq [0, 0, 0]) (cs' := uq [u0, u1, u2]) (Blk.mk_ _ rfl rfl) (uq_one _) rfl (n := 3) (by kernel_rfl) rfl ?_; intro w5 hbx hon))
      obtain ⟨g3, hg3⟩ : ∃ g3, w3.heap.size = g3 := ⟨_, rfl⟩
      have hg3l : wr.heap.size ≤ g3 := by rw [← hg3]; exact hb3.size
      rw [hg3] at hbx hon
      simp only [hg3]
      have x0 := hbx.at_ 0 rfl
      have x1 := hbx.at_ 1 rfl
      have x2 := hbx.at_ 2 rfl
      have hb5 : Below g3 w3 w5 := hon.below (bw_al (Below.refl _ _) (by omega) _) (Nat.le_refl _)
      have k0 := (H0.out.stay hb3).keep hb5 (by omega)
      have k1 := (H1.out.stay hb3).keep hb5 (by omega)
      have bl5 : Below B w w5 := (bw_then HBL.out hb3 (by omega)).trans (hb5.mono (by omega))
      have K0 := Lib.hid k0
      have K1 := Lib.hid k1
      have BL5 := Lib.hid bl5
      clear hbx hon hb3 hb5 k0 k1 bl5
      have hu20 := hu2.1
      by_cases hbig : 0 < u2 / 4
      · go_wp2_with (refine wp_store_blk rfl 90 (.tmp 2) (.tmp 29) rfl rfl rfl (cs' := uq [u0, u1, u2 % 4]) K1.out (uq_one _) rfl (n := 3) (by kernel_rfl) rfl ?_; intro w6 hbx hon)
        refine ret_blk rfl rfl hbx Tryd.underlying90 rfl (n := 3) (by kernel_rfl) rfl rfl ?_
        obtain ⟨e1, e2, e3, e4⟩ := HU.out ()
        have y0 := HUW.out u0 (by simp)
        have y1 := HUW.out u1 (by simp)
        refine ⟨[u0, u1, u2 % 4], rfl, rfl, fun z hz => by simp at hz; omega, ?_, by first | (rw [hB]; exact hon.below BL5.out (by omega)) | exact hon.below BL5.out (by omega)⟩
        rw [HNN.out (), ← e3, e4]
        have hge : ¬ leW [c0, c1, c2] + 5 < 1361129467683753853853498429727072845824 := by rw [← e1]; simp only [leW]; omega
        rw [if_neg hge, ← e1]
        have hlt2 : leW [u0, u1, u2] < 1361129467683753853853498429727072845824 + 5 := by rw [e1]; omega
        simp only [leW] at hlt2 ⊢
        omega
      · go_wp2_with (first
          | (refine wp_load_blk rfl 90 (.tmp 1) rfl rfl K0.out Tryd.underlying90 rfl (n := 3) (by kernel_rfl) rfl ?_)
          | (refine wp_store_blk rfl 90 (.tmp 2) (.tmp 30) rfl rfl rfl (cs' := uq [c0, c1, c2]) K1.out (uq_one _) rfl (n := 3) (by kernel_rfl) rfl ?_; intro w6 hbx hon))
        refine ret_blk rfl rfl hbx Tryd.underlying90 rfl (n := 3) (by kernel_rfl) rfl rfl ?_
        obtain ⟨e1, e2, e3, e4⟩ := HU.out ()
        have y0 := HUW.out u0 (by simp)
        have y1 := HUW.out u1 (by simp)
        refine ⟨[c0, c1, c2], rfl, rfl, HW.out, ?_, by first | (rw [hB]; exact hon.below BL5.out (by omega)) | exact hon.below BL5.out (by omega)⟩
        rw [HNN.out (), ← e3, e4, if_pos]
        rw [← e1]
        simp only [leW]
        omega
end Go.Proofs.YtmjjnaaiakchhaaDoor

/-
  pack.Join of two.
-/
namespace Go.Proofs.YtmjjnaaiakchhaaDoor
open Go.RowKit PAeadSeals Go.Proofs.YtmjjnaaiakchhaaDoorW.PrintWords Go.Proofs.YtmjjnaaiakchhaaDoorW.PrintLast Go.Proofs.YtmjjnaaiakchhaaDoorW.PrintMore

theorem join2_f (a b : List Int) (h : a.length + b.length < 1000000) : pack_Join.f 5 [a, b] = some (a ++ b) := by
  have r0 : rd_L1 [a, b] 0 = a := rfl
  have r1 : rd_L1 [a, b] 1 = b := rfl
  have w1 : wrap64 ((0 : Int) + 1) = 1 := by rw [w64 (by omega) (by omega)]; rfl
  have w2 : wrap64 ((1 : Int) + 1) = 2 := by rw [w64 (by omega) (by omega)]; rfl
  unfold pack_Join.f
  simp only [List.length_cons, List.length_nil]
  simp only [pack_Join.l0]
  rw [if_pos (by decide), if_pos (by decide), if_pos (by simp), r0, if_pos (by simp; omega), w1, if_pos (by decide), if_pos (by decide), if_pos (by simp), r1, if_pos (by simp; omega), w2, if_neg (by decide)]
  rfl
theorem join2_any (w : World) (g : Nat) (u v : Value) (t : TypeId) (a b : List Int) (hb : Blk w g [u, v] t) (hu : Rd w u (bs a)) (hv : Rd w v (bs b)) (hl : a.length + b.length < 1000000) :
    Calls Tryd.prog 58 #[.slice (some ⟨g, 0, none⟩) 2 2] w fun e w' => ∃ r, e = .returned r ∧ Rd w' r (bs (a ++ b)) ∧ Below w.heap.size w w' := by
  obtain ⟨A, c, hu1, hu2, _⟩ := id hu
  obtain ⟨A', c', hv1, hv2, _⟩ := id hv
  rw [bs_len] at hu1 hu2 hv1 hv2
  subst hu1 hv1
  have ku := kd_of_rd (k := .u8) hu
  have kv := kd_of_rd (k := .u8) hv
  have hc : Kd.C (Kd.slice 5 (Kd.int .u8)) w (some ⟨g, 0, none⟩) [a, b].length [a, b] := by
    refine ⟨rfl, by simp, fun _ => ⟨_, rfl, fun j p hj => ?_⟩⟩
    match j, hj with
    | 0, hj =>
      obtain rfl : a = p := by simpa using hj
      refine ⟨[.slice A a.length c], rfl, ⟨A, c, rfl, hu2, ku⟩, fun i x hi => ?_⟩
      have h0 : i = 0 := by have := (List.getElem?_eq_some_iff.1 hi).1; simp at this; exact this
      subst h0
      obtain rfl : Value.slice A a.length c = x := by simpa using hi
      exact hb.at_ 0 rfl
    | 1, hj =>
      obtain rfl : b = p := by simpa using hj
      refine ⟨[.slice A' b.length c'], rfl, ⟨A', c', rfl, hv2, kv⟩, fun i x hi => ?_⟩
      have h0 : i = 0 := by have := (List.getElem?_eq_some_iff.1 hi).1; simp at this; exact this
      subst h0
      obtain rfl : Value.slice A' b.length c' = x := by simpa using hi
      exact hb.at_ 1 rfl
    | j + 2, hj => simp at hj
  refine (pack_Join.calls 5 (some ⟨g, 0, none⟩) 2 [a, b] (a ++ b) w hc (by simp) (join2_f a b hl)).mono ?_
  rintro e w' ⟨r, rfl, h1, h2⟩
  exact ⟨r, rfl, rd_of_kd h1, h2⟩
end Go.Proofs.YtmjjnaaiakchhaaDoor

/-
  copy, as the walk takes it.
-/
namespace Go.Proofs.YtmjjnaaiakchhaaDoor
open Go.RowKit

theorem wp_copy {P : Program} {ops : Array Oper} {rest : List Oper} {o : Oper} {a : Act} {w : World} {Q : Exit → Act → World → Prop} (d s : Operand) (dT sT : TypeId) (hgd : o.guard = none)
    (ho : o.op = .call { callee := .builtin .copy, args := #[d, s], argTypes := #[dT, sT] }) (elem : TypeId) (hu : P.underlying dT = some (.slice elem)) (hs : (P.info? elem).map (·.size) = some 1)
    {g off dLen dCap : Nat} (hd : a.eval d = .slice (some ⟨g, off, none⟩) dLen dCap) {u : Value} {ys : List Value} (hx : a.eval s = u) (hr : Rd w u ys) (hne : 0 < ys.length) (hle : ys.length ≤ dLen)
    {cur : List Value} {t : TypeId} (hg : Blk w g cur t) (hfit : off + ys.length ≤ cur.length) (h1 : ∀ y ∈ ys, y.oneCell' = true)
    (h : ∀ w', Blk w' g (cur.take off ++ ys ++ cur.drop (off + ys.length)) t → Only g w w' → wpList P ops Q rest (a.put o.dst (goInt ys.length)) w') : wpList P ops Q (o :: rest) a w :=
  wpList_plain hgd fun K hK => by
    show o.upon P a K Q ((execOp a.eval o).run P w)
    obtain ⟨A, c, rfl, hc1, hc2, h0, h3⟩ := hr
    rcases h3 with rfl | ⟨b, o', rfl, h3⟩
    · simp at hne
    · have hrun := run_copy_row (P := P) w dT sT o.type elem g off dLen dCap ⟨b, o', none⟩ ys.length c cur.toArray t ys hu hs hg (Nat.min_eq_left hle).symm (by
        intro j y hj
        obtain ⟨hlt, rfl⟩ := List.getElem?_eq_some_iff.1 hj
        rw [← h3 j hlt]
        congr 1
        unfold Addr.add; split <;> simp_all) (by simpa using hfit) h1
      simp [execOp, ho, resolve, invoke, builtin, hd, hx, hrun, Result.andThen]
      exact hK _ _ (h _ (show _ = _ by simpa using setRow_heap w g cur.toArray (cur.take off ++ ys ++ cur.drop (off + ys.length)).toArray t (0, 0) hg) (Only.row w g _))
end Go.Proofs.YtmjjnaaiakchhaaDoor
end

section
/-
  Contracts of package pack's functions over 32 bits.
-/
namespace Go.Proofs.YtmjjnaaiakchhaaDoor
open Go.RowKit

set_option maxHeartbeats 1000000 in
theorem lowu32_any (v : Value) (xs : List Int) (x n : Int) (w : World) (hr : Rd w v (bs xs)) (hl : xs.length ≤ 70368744177664) (_hx0 : 0 ≤ x) (h0 : 0 ≤ n) (hn : n ≤ 4) :
    Calls Tryd.prog 50 #[v, .int .u32 x, .int .i64 n] w fun e w' => NewB (xs ++ lowN x n.toNat) w e w' := by
  have hr0 := Lib.hid hr
  obtain ⟨A, c, rfl, _⟩ := hr
  obtain ⟨n, rfl⟩ := Int.eq_ofNat_of_zero_le h0
  simp only [Int.toNat_natCast]
  rw [bs_len] at hr0 ⊢
  go_enter Tryd.func50, Tryd.ntmps50
  go_wp2_with (at_builtin; refine wp_app _ _ 30 rfl rfl 5 (.int .u8 0) 1 Tryd.underlying30 info5 rfl w.heap.size rfl (World.ownsRow_nil _ _ _ _) rfl hr0.out (bs_one _) (by decide) (by rw [bs_len]; omega) (Nat.le_refl _) ?_; intro v' w1 hown1 _ hb1)
  simp only [Nat.zero_add, List.nil_append, bs_len] at hown1
  go_loopw [7, 12] (fun v i wr => ∃ k : Nat, k ≤ n ∧ i = .int .i64 k ∧ wr.ownsRow w.heap.size 5 1 v (xs.length + k) (bs (xs ++ lowN x k)) ∧ Below w.heap.size w wr) (fun _ i _ => n - (intOf i).toNat)
  case atStart => exact ⟨0, Nat.zero_le _, rfl, by simpa [lowN] using hown1, hb1⟩
  case round =>
    obtain ⟨k, hk, rfl, hown, hb⟩ := hrel
    by_cases hlt : k < n
    · have hsz := hb.size
      go_wp2_with (at_builtin; refine wp_app _ _ 30 rfl rfl 5 (.int .u8 0) 1 Tryd.underlying30 info5 rfl w.heap.size rfl (hown.alloc _) rfl (Rd.one _ _ _) (by intro y hy; simp at hy; subst hy; rfl) (by decide) (by simp; omega) (by simp; omega) ?_; intro v2 w2 hown2 _ hb2)
      go_roundw
      case rel => exact ⟨k + 1, by omega, by go_num, by simpa [lowN, bs, Nat.add_assoc] using hown2, (hb.alloc hsz _).trans hb2⟩
      case measure => simp [intOf]; omega
    · obtain rfl : k = n := by omega
      go_wp2
      go_ret
      exact ⟨_, rfl, hb, by rw [List.length_append, lowN_len]; exact hown⟩

set_option maxHeartbeats 400000 in
theorem putLe32_any (v : Value) (xs : List Int) (x : Int) (w : World) (hr : Rd w v (bs xs)) (hl : xs.length ≤ 70368744177664) (hx0 : 0 ≤ x) :
    Calls Tryd.prog 36 #[v, .int .u32 x] w fun e w' => NewB (xs ++ lowN x (32 / 8)) w e w' := by
  go_enter Tryd.func36, Tryd.ntmps36
  go_wp2_with (go_at_call 50; refine (lowu32_any _ xs _ _ _ hr hl hx0 (by omega) (by omega)).mono ?_; rintro e w' ⟨v', rfl, hb, ho⟩)
  go_ret
  exact ⟨_, rfl, hb, ho⟩

set_option maxHeartbeats 400000 in
theorem le32_any (v : Value) (xs : List Int) (at_ : Int) (w : World) (hr : Rd w v (bs xs)) (hx : IsB xs) (h0 : 0 ≤ at_) (h1 : at_ ≤ 4294967296) :
    Calls Tryd.prog 48 #[v, .int .i64 at_] w fun e w' => e = .returned (.int .u32 (leN xs at_.toNat 4)) ∧ w = w' := by
  have hb := leN_range hx at_.toNat 4
  have e4 : (256 : Int) ^ 4 = 4294967296 := by decide
  rw [e4] at hb
  go_enter Tryd.func48, Tryd.ntmps48
  go_wp2_with (go_at_call 65; refine (take_any _ xs _ _ _ hr hx h0 h1 (by omega) (by omega)).mono ?_; rintro e w' ⟨rfl, rfl⟩)
  go_ret
  exact ⟨rfl, rfl⟩
end Go.Proofs.YtmjjnaaiakchhaaDoor
end

section
/-
  chacha.first: a block's numbers ahead of all rounds.
-/
namespace Go.Proofs.YtmjjnaaiakchhaaDoor
open Go.RowKit

/-- Numbers of 32 bits as values. -/
def us (xs : List Int) : List Value := xs.map (Value.int .u32)
theorem us_len (xs : List Int) : (us xs).length = xs.length := by simp [us]

def firstK (key : List Int) : Nat → List Int
  | 0 => [1634760805, 857760878, 2036477234, 1797285236, 0, 0, 0, 0, 0, 0, 0, 0, 0, 0, 0, 0]
  | i + 1 => (firstK key i).set (4 + i) (leN key (4 * i) 4)
def firstN (key : List Int) (c : Int) (nonce : List Int) : Nat → List Int
  | 0 => (firstK key 8).set 12 c
  | i + 1 => (firstN key c nonce i).set (13 + i) (leN nonce (4 * i) 4)
theorem firstK_len (key : List Int) (n : Nat) : (firstK key n).length = 16 := by induction n with | zero => rfl | succ n ih => simp [firstK, ih]
theorem firstN_len (key : List Int) (c : Int) (nonce : List Int) (n : Nat) : (firstN key c nonce n).length = 16 := by induction n with | zero => simp [firstN, firstK_len] | succ n ih => simp [firstN, ih]

def z16 : List Int := [0, 0, 0, 0, 0, 0, 0, 0, 0, 0, 0, 0, 0, 0, 0, 0]
/-- What the call's own blocks hold while it runs. -/
structure FirstInv (B : Nat) (w wr : World) (key nonce s : List Int) : Prop where
  k : Blk wr B (bs key) 22
  n : Blk wr (B + 1) (bs nonce) 24
  o : Blk wr (B + 1 + 1) (us z16) 62
  s : Blk wr (B + 1 + 1 + 1) (us s) 62
  b : Below B w wr
theorem us_one (xs : List Int) : ∀ y ∈ us xs, y.oneCell' = true := by
  intro y hy
  obtain ⟨x, _, rfl⟩ := List.mem_map.1 hy
  rfl
theorem us_set (xs : List Int) (i : Nat) (x : Int) : (us xs).set i (.int .u32 x) = us (xs.set i x) := by simp [us, List.map_set]
theorem us_get (xs : List Int) (i : Nat) (h : i < xs.length) : (us xs)[i]? = some (.int .u32 (xs.getD i 0)) := by simp [us, List.getD_eq_getElem?_getD, h]
theorem FirstInv.put {B : Nat} {w wr : World} {key nonce s : List Int} (h : FirstInv B w wr key nonce s) (i : Nat) (x : Int) : FirstInv B w (wr.setCell ⟨B + 1 + 1 + 1, i, none⟩ (.int .u32 x)) key nonce (s.set i x) :=
  ⟨h.k.other (by simp; omega) _, h.n.other (by simp) _, h.o.other (by simp) _, by rw [← us_set]; exact h.s.set i _, bw_set h.b _ _ (by omega) _⟩

set_option maxHeartbeats 1000000 in
theorem first_any (key nonce : List Int) (c : Int) (w : World) (hk : key.length = 32) (hn : nonce.length = 12) (hkb : IsB key) (hnb : IsB nonce) :
    Calls Tryd.prog 34 #[.agg (bs key).toArray, .int .u32 c, .agg (bs nonce).toArray] w fun e w' => e = .returned (.agg (us (firstN key c nonce 3)).toArray) ∧ Below w.heap.size w w' := by
  have HK := Lib.hid hk
  have HN := Lib.hid hn
  clear hk hn
  obtain ⟨B, hB⟩ : ∃ B, w.heap.size = B := ⟨_, rfl⟩
  go_enter Tryd.func34, Tryd.ntmps34
  go_wp2_with fail
  go_loopw [11] (fun i wr => ∃ k : Nat, k ≤ 8 ∧ i = .int .i64 k ∧ FirstInv B w wr key nonce (firstK key k)) (fun i _ => 8 - (intOf i).toNat)
  case atStart =>
    refine ⟨0, by omega, rfl, ?_, ?_, ?_, ?_, ?_⟩
    all_goals subst hB
    all_goals (repeat (first | (with_reducible exact Below.refl _ _) | ((with_reducible refine Blk.mk_ _ ?_ ?_) <;> (first | rfl | (simp; done))) | (with_reducible refine Blk.al ?_ _) | (with_reducible refine bw_al ?_ ?_ _)))
    all_goals (first | rfl | omega | (simp; done) | (simp; omega))
  case round =>
    obtain ⟨k, hk8, rfl, inv⟩ := hrel
    by_cases hlt : k < 8
    · have hr : Rd wr (.slice (some ⟨B, 0, none⟩) 32 32) (bs key) := by
        have := Rd.of_blk inv.k (by rw [bs_len, HK.out]; omega)
        rwa [bs_len, HK.out] at this
      have c1 := inv.s.at_ (4 + k) (us_get _ _ (by rw [firstK_len]; omega))
      have c2 := inv.s.free (4 + k)
      go_wp2_with (go_at_call 48; refine (le32_any _ key _ _ hr hkb (by omega) (by omega)).mono ?_; rintro e w' ⟨rfl, rfl⟩)
      go_roundw
      case rel => exact ⟨k + 1, by omega, by go_num, inv.put (4 + k) _⟩
      case measure => simp [intOf]; omega
    · obtain rfl : k = 8 := by omega
      simp only [Int.cast_ofNat_Int]
      have c1 := inv.s.at_ 12 (us_get _ _ (by rw [firstK_len]; omega))
      have c2 := inv.s.free 12
      have inv1 : FirstInv B w _ key nonce (firstN key c nonce 0) := inv.put 12 c
      go_wp2_with fail
      clear c1 c2 inv
      generalize wr.setCell ⟨B + 1 + 1 + 1, 12, none⟩ (.int .u32 c) = w1 at *
      go_loopw [24] (fun i wr => ∃ k : Nat, k ≤ 3 ∧ i = .int .i64 k ∧ FirstInv B w wr key nonce (firstN key c nonce k)) (fun i _ => 3 - (intOf i).toNat)
      case atStart => exact ⟨0, by omega, rfl, inv1⟩
      case round =>
        obtain ⟨k, hk3, rfl, inv⟩ := hrel
        by_cases hlt : k < 3
        · have hr : Rd wr (.slice (some ⟨B + 1, 0, none⟩) 12 12) (bs nonce) := by
            have := Rd.of_blk inv.n (by rw [bs_len, HN.out]; omega)
            rwa [bs_len, HN.out] at this
          have c1 := inv.s.at_ (13 + k) (us_get _ _ (by rw [firstN_len]; omega))
          have c2 := inv.s.free (13 + k)
          go_wp2_with (go_at_call 48; refine (le32_any _ nonce _ _ hr hnb (by omega) (by omega)).mono ?_; rintro e w' ⟨rfl, rfl⟩)
          go_roundw
          case rel => exact ⟨k + 1, by omega, by go_num, inv.put (13 + k) _⟩
          case measure => simp [intOf]; omega
        · obtain rfl : k = 3 := by omega
          go_wp2_with (first
            | (refine wp_load_blk rfl 62 (.tmp 7) rfl rfl inv.s Tryd.underlying62 rfl (n := 16) (by kernel_rfl) (by rw [us_len, firstN_len]) ?_)
            | (refine wp_store_blk rfl 62 (.tmp 6) (.tmp 35) rfl rfl rfl inv.o (us_one _) (by rw [us_len, us_len, firstN_len]; rfl) (n := 16) (by kernel_rfl) (by rw [us_len, firstN_len]) ?_; intro w' hb ho))
          refine ret_blk rfl rfl hb Tryd.underlying62 rfl (n := 16) (by kernel_rfl) (by rw [us_len, firstN_len]) rfl ?_
          rw [hB]
          exact ⟨rfl, ho.below inv.b (by omega)⟩
end Go.Proofs.YtmjjnaaiakchhaaDoor
end

section
/-
  intaglioref02.begin: a block's numbers at first.
-/
namespace Go.Proofs.YtmjjnaaiakchhaaDoor
open Go.RowKit

/-- The cells of 'At'. -/
def atV (key : List Int) (c : Int) (nonce : List Int) : List Value := bs key ++ (.int .u32 c :: bs nonce)
theorem atV_len (key : List Int) (c : Int) (nonce : List Int) : (atV key c nonce).length = key.length + 1 + nonce.length := by simp [atV, bs]; omega
theorem atV_key (key : List Int) (c : Int) (nonce : List Int) (i : Nat) (h : i < key.length) : (atV key c nonce)[i]? = some (.int .u8 (key.getD i 0)) := by
  rw [atV, List.getElem?_append_left (by simpa [bs] using h)]; simp [bs, List.getD_eq_getElem?_getD, h]
theorem atV_c (key : List Int) (c : Int) (nonce : List Int) (hk : key.length = 32) : (atV key c nonce)[32]? = some (.int .u32 c) := by
  rw [atV, List.getElem?_append_right (by simp [bs, hk])]; simp [bs, hk]
theorem atV_nonce (key : List Int) (c : Int) (nonce : List Int) (hk : key.length = 32) (i : Nat) (h : i < nonce.length) : (atV key c nonce)[33 + i]? = some (.int .u8 (nonce.getD i 0)) := by
  rw [atV, List.getElem?_append_right (by simp [bs, hk]; omega)]
  have : 33 + i - (bs key).length = i + 1 := by simp [bs, hk]; omega
  rw [this, List.getElem?_cons_succ]; simp [bs, List.getD_eq_getElem?_getD, h]

def plusK (xs : List Int) (at_ k : Nat) (s : List Int) : List Int :=
  s.set (at_ + k / 4) ((s.getD (at_ + k / 4) 0 + xs.getD k 0 % 4294967296 * 2 ^ (8 * (k % 4))) % 4294967296)
def beginK (key : List Int) : Nat → List Int
  | 0 => [1634760805, 857760878, 2036477234, 1797285236, 0, 0, 0, 0, 0, 0, 0, 0, 0, 0, 0, 0]
  | k + 1 => plusK key 4 k (beginK key k)
def beginN (key : List Int) (c : Int) (nonce : List Int) : Nat → List Int
  | 0 => (beginK key 32).set 12 c
  | k + 1 => plusK nonce 13 k (beginN key c nonce k)
theorem plusK_len (xs : List Int) (a k : Nat) (s : List Int) : (plusK xs a k s).length = s.length := by simp [plusK]
theorem beginK_len (key : List Int) (n : Nat) : (beginK key n).length = 16 := by induction n with | zero => rfl | succ n ih => simp [beginK, plusK_len, ih]
theorem beginN_len (key : List Int) (c : Int) (nonce : List Int) (n : Nat) : (beginN key c nonce n).length = 16 := by induction n with | zero => simp [beginN, beginK_len] | succ n ih => simp [beginN, plusK_len, ih]

structure BeginInv (B : Nat) (w wr : World) (xs : List Value) (s : List Int) : Prop where
  x : Blk wr B xs 26
  o : Blk wr (B + 1) (us z16) 62
  s : Blk wr (B + 1 + 1) (us s) 62
  b : Below B w wr
theorem BeginInv.put {B : Nat} {w wr : World} {xs : List Value} {s : List Int} (h : BeginInv B w wr xs s) (i : Nat) (x : Int) : BeginInv B w (wr.setCell ⟨B + 1 + 1, i, none⟩ (.int .u32 x)) xs (s.set i x) :=
  ⟨h.x.other (by simp; omega) _, h.o.other (by simp) _, by rw [← us_set]; exact h.s.set i _, bw_set h.b _ _ (by omega) _⟩
theorem BeginInv.d1 {B : Nat} {w wr : World} {xs : List Value} {s : List Int} (h : BeginInv B w wr xs s) : BeginInv B w wr.drew xs s := ⟨h.x, h.o, h.s, bw_d1 h.b⟩

set_option maxHeartbeats 1000000 in
set_option maxRecDepth 8000 in
theorem begin_any (key nonce : List Int) (c : Int) (w : World) (hk : key.length = 32) (hn : nonce.length = 12) (_hkb : IsB key) (_hnb : IsB nonce) :
    Calls Tryd.prog 37 #[.agg (atV key c nonce).toArray] w fun e w' => e = .returned (.agg (us (beginN key c nonce 12)).toArray) ∧ Below w.heap.size w w' := by
  have HK := Lib.hid hk
  have HN := Lib.hid hn
  clear hk hn
  obtain ⟨B, hB⟩ : ∃ B, w.heap.size = B := ⟨_, rfl⟩
  go_enter Tryd.func37, Tryd.ntmps37
  go_wp2_with fail
  change Code.wp _ _ _ _ (((w.alloc (.cells (atV key c nonce).toArray 26)).alloc (.cells (us z16).toArray 62)).alloc (.cells (us (beginK key 0)).toArray 62))
  have inv0 : BeginInv B w (((w.alloc (.cells (atV key c nonce).toArray 26)).alloc (.cells (us z16).toArray 62)).alloc (.cells (us (beginK key 0)).toArray 62)) (atV key c nonce) (beginK key 0) :=
    ⟨((Blk.mk_ _ hB.symm rfl).al _).al _, (Blk.mk_ _ (by simp [hB]) rfl).al _, Blk.mk_ _ (by simp [hB]) rfl, bw_al (bw_al (bw_al (Below.refl _ _) (by omega) _) (by simp; omega) _) (by simp; omega) _⟩
  generalize (((w.alloc (.cells (atV key c nonce).toArray 26)).alloc (.cells (us z16).toArray 62)).alloc (.cells (us (beginK key 0)).toArray 62)) = w1 at *
  go_loopw [4] (fun i wr => ∃ k : Nat, k ≤ 32 ∧ i = .int .i64 k ∧ BeginInv B w wr (atV key c nonce) (beginK key k)) (fun i _ => 32 - (intOf i).toNat)
  case atStart => exact ⟨0, by omega, rfl, inv0⟩
  case round =>
    obtain ⟨k, hk32, rfl, inv⟩ := hrel
    by_cases hlt : k < 32
    · obtain ⟨d, hd⟩ : ∃ d, k / 4 = d := ⟨_, rfl⟩
      obtain ⟨m, hm⟩ : ∃ m, k % 4 = m := ⟨_, rfl⟩
      have e1 : (k : Int) / 4 = (d : Int) := by omega
      have e2 : (k : Int) % 4 = (m : Int) := by omega
      have e3 : d < 8 := by omega
      have e4 : m < 4 := by omega
      have HD := Lib.hid hd
      have HM := Lib.hid hm
      clear hd hm
      go_upto_region 9 with fail
      refine region_draws [(14, ?v14), (15, ?v15), (16, ?v16), (17, ?v17), (18, ?v18), (19, ?v19), (20, ?v20), (21, ?v21), (22, ?v22), (23, ?v23), (24, ?v24), (25, ?v25), (26, ?v26), (27, ?v27), (28, ?v28), (29, ?v29), (30, ?v30), (31, ?v31), (32, ?v32)] []
        (fun L T wr => BeginInv B w wr (atV key c nonce) (if L 19 = true then beginK key (k + 1) else beginK key k))
        (fun _ => undef) (by kernel_rfl) (by kernel_rfl) 60 rfl (by kernel_rfl) ?g0 ?hops ?hend
      case g0 => exact inv.d1
      case hops =>
        simp only [AllFrom]
        refine ⟨?_, ?_, ?_, ?_, ?_, ?_, ?_, ?_, ?_, ?_, ?_, ?_, ?_, ?_, ?_, ?_, ?_, ?_, ?_, ?_,  trivial⟩
        iterate 7 (· (intro L T w hpre hpost hG; skip; first | exact .inl ⟨rfl, rfl⟩ | (refine .inl ⟨rfl, ?_⟩; simp only [execOp]; go_simp; (try go_ints); (try go_simp); (try rw [if_pos (by omega)]); (first | done | rfl))))
        · (intro L T w hpre hpost hG; (rw [if_neg (by simp [hpost 19 _ rfl rfl])] at hG; have c := hG.s.at_ (4 + d) (us_get _ _ (by rw [beginK_len]; omega))); first | exact .inl ⟨rfl, rfl⟩ | (refine .inl ⟨rfl, ?_⟩; simp only [execOp]; go_simp; (try go_ints); (try go_simp); (try rw [if_pos (by omega)]); (first | done | rfl)))
        iterate 3 (· (intro L T w hpre hpost hG; skip; first | exact .inl ⟨rfl, rfl⟩ | (refine .inl ⟨rfl, ?_⟩; simp only [execOp]; go_simp; (try go_ints); (try go_simp); (try rw [if_pos (by omega)]); (first | done | rfl))))
        · (intro L T w hpre hpost hG; (have c := (show BeginInv B _ w _ (if L 19 = true then _ else _) from hG).x.at_ k (atV_key key c nonce k (by rw [HK.out]; omega))); first | exact .inl ⟨rfl, rfl⟩ | (refine .inl ⟨rfl, ?_⟩; simp only [execOp]; go_simp; (try go_ints); (try go_simp); (try rw [if_pos (by omega)]); (first | done | rfl)))
        iterate 7 (· (intro L T w hpre hpost hG; skip; first | exact .inl ⟨rfl, rfl⟩ | (refine .inl ⟨rfl, ?_⟩; simp only [execOp]; go_simp; (try go_ints); (try go_simp); (try rw [if_pos (by omega)]); (first | done | rfl))))
        · intro L T w hL hpre hpost hG
          rw [if_neg (by simp [hL])] at hG
          have c5 := hG.s.at_ (4 + d) (us_get _ _ (by rw [beginK_len]; omega))
          have c1 := hG.s.free (4 + d)
          refine .inl ⟨rfl, fun a K hK => ?_⟩
          simp only [execOp]
          go_simp
          refine hK undef _ (show BeginInv B _ _ _ (if (L 19 || (19 == 19)) = true then beginK key (k + 1) else beginK key k) from ?_)
          rw [if_pos (by simp), show beginK key (k + 1) = plusK key 4 k (beginK key k) from rfl, plusK, HD.out, HM.out]
          exact hG.put (4 + d) _
      case hend =>
        intro L T w hall hG
        rw [if_pos (hall 19 (by decide) rfl)] at hG
        simp only [fillT, fillP, List.foldl_cons, List.foldl_nil, Act.put]
        go_wp2_with fail
        exact ⟨⟨k + 1, by omega, by go_num, hG⟩, by simp [intOf]; omega⟩
    · obtain rfl : k = 32 := by omega
      simp only [Int.cast_ofNat_Int]
      have c0 := inv.x.at_ 32 (atV_c key c nonce HK.out)
      have c1 := inv.s.at_ 12 (us_get _ _ (by rw [beginK_len]; omega))
      have c2 := inv.s.free 12
      have inv1 : BeginInv B w _ (atV key c nonce) (beginN key c nonce 0) := inv.put 12 c
      go_wp2_with fail
      clear c0 c1 c2 inv
      generalize wr.setCell ⟨B + 1 + 1, 12, none⟩ (.int .u32 c) = w1 at *
      go_loopw [5] (fun i wr => ∃ k : Nat, k ≤ 12 ∧ i = .int .i64 k ∧ BeginInv B w wr (atV key c nonce) (beginN key c nonce k)) (fun i _ => 12 - (intOf i).toNat)
      case atStart => exact ⟨0, by omega, rfl, inv1⟩
      case round =>
        obtain ⟨k, hk12, rfl, inv⟩ := hrel
        by_cases hlt : k < 12
        · obtain ⟨d, hd⟩ : ∃ d, k / 4 = d := ⟨_, rfl⟩
          obtain ⟨m, hm⟩ : ∃ m, k % 4 = m := ⟨_, rfl⟩
          have e1 : (k : Int) / 4 = (d : Int) := by omega
          have e2 : (k : Int) % 4 = (m : Int) := by omega
          have e3 : d < 3 := by omega
          have e4 : m < 4 := by omega
          have HD := Lib.hid hd
          have HM := Lib.hid hm
          clear hd hm
          go_upto_region 14 with fail
          refine region_draws [(40, ?v40), (41, ?v41), (42, ?v42), (43, ?v43), (44, ?v44), (45, ?v45), (46, ?v46), (47, ?v47), (48, ?v48), (49, ?v49), (50, ?v50), (51, ?v51), (52, ?v52), (53, ?v53), (54, ?v54), (55, ?v55), (56, ?v56), (57, ?v57), (58, ?v58)] []
            (fun L T wr => BeginInv B w wr (atV key c nonce) (if L 19 = true then beginN key c nonce (k + 1) else beginN key c nonce k))
            (fun _ => undef) (by kernel_rfl) (by kernel_rfl) 60 rfl (by kernel_rfl) ?g0 ?hops ?hend
          case g0 => exact inv.d1
          case hops =>
            simp only [AllFrom]
            refine ⟨?_, ?_, ?_, ?_, ?_, ?_, ?_, ?_, ?_, ?_, ?_, ?_, ?_, ?_, ?_, ?_, ?_, ?_, ?_, ?_,  trivial⟩
            iterate 7 (· (intro L T w hpre hpost hG; skip; first | exact .inl ⟨rfl, rfl⟩ | (refine .inl ⟨rfl, ?_⟩; simp only [execOp]; go_simp; (try go_ints); (try go_simp); (try rw [if_pos (by omega)]); (first | done | rfl))))
            · (intro L T w hpre hpost hG; (rw [if_neg (by simp [hpost 19 _ rfl rfl])] at hG; have c := hG.s.at_ (13 + d) (us_get _ _ (by rw [beginN_len]; omega))); first | exact .inl ⟨rfl, rfl⟩ | (refine .inl ⟨rfl, ?_⟩; simp only [execOp]; go_simp; (try go_ints); (try go_simp); (try rw [if_pos (by omega)]); (first | done | rfl)))
            iterate 3 (· (intro L T w hpre hpost hG; skip; first | exact .inl ⟨rfl, rfl⟩ | (refine .inl ⟨rfl, ?_⟩; simp only [execOp]; go_simp; (try go_ints); (try go_simp); (try rw [if_pos (by omega)]); (first | done | rfl))))
            · (intro L T w hpre hpost hG; (have c := (show BeginInv B _ w _ (if L 19 = true then _ else _) from hG).x.at_ (33 + k) (atV_nonce key c nonce HK.out k (by rw [HN.out]; omega))); first | exact .inl ⟨rfl, rfl⟩ | (refine .inl ⟨rfl, ?_⟩; simp only [execOp]; go_simp; (try go_ints); (try go_simp); (try rw [if_pos (by omega)]); (first | done | rfl)))
            iterate 7 (· (intro L T w hpre hpost hG; skip; first | exact .inl ⟨rfl, rfl⟩ | (refine .inl ⟨rfl, ?_⟩; simp only [execOp]; go_simp; (try go_ints); (try go_simp); (try rw [if_pos (by omega)]); (first | done | rfl))))
            · intro L T w hL hpre hpost hG
              rw [if_neg (by simp [hL])] at hG
              have c5 := hG.s.at_ (13 + d) (us_get _ _ (by rw [beginN_len]; omega))
              have c1 := hG.s.free (13 + d)
              refine .inl ⟨rfl, fun a K hK => ?_⟩
              simp only [execOp]
              go_simp
              refine hK undef _ (show BeginInv B _ _ _ (if (L 19 || (19 == 19)) = true then beginN key c nonce (k + 1) else beginN key c nonce k) from ?_)
              rw [if_pos (by simp), show beginN key c nonce (k + 1) = plusK nonce 13 k (beginN key c nonce k) from rfl, plusK, HD.out, HM.out]
              exact hG.put (13 + d) _
          case hend =>
            intro L T w hall hG
            rw [if_pos (hall 19 (by decide) rfl)] at hG
            simp only [fillT, fillP, List.foldl_cons, List.foldl_nil, Act.put]
            go_wp2_with fail
            exact ⟨⟨k + 1, by omega, by go_num, hG⟩, by simp [intOf]; omega⟩
        · obtain rfl : k = 12 := by omega
          go_wp2_with (first
            | (refine wp_load_blk rfl 62 (.tmp 3) rfl rfl inv.s Tryd.underlying62 rfl (n := 16) (by kernel_rfl) (by rw [us_len, beginN_len]) ?_)
            | (refine wp_store_blk rfl 62 (.tmp 2) (.tmp 59) rfl rfl rfl inv.o (us_one _) (by rw [us_len, us_len, beginN_len]; rfl) (n := 16) (by kernel_rfl) (by rw [us_len, beginN_len]) ?_; intro w' hb ho))
          refine ret_blk rfl rfl hb Tryd.underlying62 rfl (n := 16) (by kernel_rfl) (by rw [us_len, beginN_len]) rfl ?_
          rw [hB]
          exact ⟨rfl, ho.below inv.b (by omega)⟩
end Go.Proofs.YtmjjnaaiakchhaaDoor
end

section
/-
  The table of the quarter rounds: what the row's list gives.
-/
namespace Go.Proofs.YtmjjnaaiakchhaaDoor
open Go.RowKit

/-- Numbers of 64 bits as values. -/
def ns (xs : List Nat) : List Value := xs.map fun (n : Nat) => Value.int .i64 (n : Int)
def rowsL : List Nat := [0, 4, 8, 12, 1, 5, 9, 13, 2, 6, 10, 14, 3, 7, 11, 15, 0, 5, 10, 15, 1, 6, 11, 12, 2, 7, 8, 13, 3, 4, 9, 14]

/-- The table of the quarter rounds lies where it was laid. -/
def Tab (w : World) : Prop := ∃ t fr, w.heap[0]? = some (.cells (ns rowsL).toArray t fr)
section
variable {w w' : World}
theorem Tab.lt (h : Tab w) : 0 < w.heap.size := by
  obtain ⟨t, fr, h⟩ := h
  exact (Array.getElem?_eq_some_iff.1 h).1
theorem Tab.same (h : Tab w) (hs : w'.heap[0]? = w.heap[0]?) : Tab w' := by
  obtain ⟨t, fr, h⟩ := h
  exact ⟨t, fr, hs.trans h⟩
theorem Tab.al (h : Tab w) (o : Obj) : Tab (w.alloc o) := h.same (Below.heap_alloc w o 0 h.lt)
theorem Tab.keep {B : Nat} (h : Tab w) (hb : Below B w w') (hB : 0 < B) : Tab w' := h.same (hb.block 0 hB)
theorem Tab.stay (h : Tab w) (hb : Below w.heap.size w w') : Tab w' := h.keep hb h.lt
theorem Tab.only {b : Nat} (h : Tab w) (o : Only b w w') (hne : 0 < b) : Tab w' := h.same (o.block 0 (by omega))
theorem Tab.other (h : Tab w) {a : Addr} (hne : 0 ≠ a.block) (v : Value) : Tab (w.setCell a v) := h.same (Below.heap_setCell _ _ _ _ hne)
theorem Tab.dr (h : Tab w) (n : Nat) : Tab (w.drewN n) := h
theorem Tab.d1 (h : Tab w) : Tab w.drew := h
end
theorem wp_load_tab {P : Program} {ops : Array Oper} {rest : List Oper} {o : Oper} {a : Act} {w : World} {Q : Exit → Act → World → Prop} (hgd : o.guard = none) (ty : TypeId) (x : Operand) (ho : o.op = .load ty x)
    (hx : a.eval x = .pointer (some ⟨0, 0, none⟩)) {d : TypeDesc} (hg : Tab w)
    (hu : P.underlying ty = some d) (hd : (match d with | .struct _ | .array _ _ => true | _ => false) = true) (hi : (P.info? ty).map (·.size) = some 32)
    (h : wpList P ops Q rest (a.put o.dst (.agg (ns rowsL).toArray)) w) : wpList P ops Q (o :: rest) a w := by
  obtain ⟨t, fr, hg⟩ := hg
  exact wpList_load_row hgd ty x ho 0 hx t (ns rowsL).toArray fr d hg hu hd (by rw [hi]; rfl) h

theorem gTab : Tryd.prog.globalNamed "intaglio/chacha.rows" = some 0 := by kernel_rfl
theorem gTabType : (Tryd.prog.globals[0]?).map (·.type) = some 65 := by kernel_rfl
theorem cells84 : Tryd.prog.cellsOf 65 = 32 := by kernel_rfl
theorem cells4 : Tryd.prog.cellsOf 64 = 4 := by kernel_rfl
theorem cells1 : Tryd.prog.cellsOf 3 = 1 := by kernel_rfl

theorem tab_cells {w : World} {enc : TypeId × Value → Unit} {base : Nat} {sp : Nat → Bool} {held : Bool} {fuel : Nat} {cs : List Value} {p : List MemPlace}
    (h : DataW.trod enc Tryd.prog w base sp held fuel 65 cs = some (Rows.laid_intaglio_chacha_rows, p)) : cs = ns rowsL := by
  obtain ⟨xs, m, _, hx, hlen, hxl, hel⟩ := DataW.trod_array Tryd.underlying65 h
  rw [cells84] at hlen
  rw [cells4] at hel
  have hxs := (DataW.agg.inj (congrArg Prod.fst hx)).symm
  have hrow : ∀ (i : Nat) (zs : List Int), i < 8 → (xs.map (·.1))[i]? = some (Lib.tabData .i64 zs) → (cs.drop (i * 4)).take 4 = zs.map fun z => Value.int .i64 z := by
    intro i zs hi hz
    rw [List.getElem?_map] at hz
    obtain ⟨x, hx1, hx2⟩ := Option.map_eq_some_iff.1 hz
    have h1 := hel i hi
    rw [hx1] at h1
    obtain ⟨x1, x2⟩ := x
    subst hx2
    exact Lib.cells_of_tab Tryd.underlying64 Tryd.underlying3 cells1 cells4 h1
  rw [hxs] at hrow
  have r0 := hrow 0 [0, 4, 8, 12] (by decide) rfl
  have r1 := hrow 1 [1, 5, 9, 13] (by decide) rfl
  have r2 := hrow 2 [2, 6, 10, 14] (by decide) rfl
  have r3 := hrow 3 [3, 7, 11, 15] (by decide) rfl
  have r4 := hrow 4 [0, 5, 10, 15] (by decide) rfl
  have r5 := hrow 5 [1, 6, 11, 12] (by decide) rfl
  have r6 := hrow 6 [2, 7, 8, 13] (by decide) rfl
  have r7 := hrow 7 [3, 4, 9, 14] (by decide) rfl
  have key : ∀ (n : Nat) (l : List Value), (cs.drop (n * 4)).take 4 = l → cs.drop (n * 4) = l ++ cs.drop ((n + 1) * 4) := by
    intro n l hl
    rw [← hl, show (n + 1) * 4 = n * 4 + 4 from by omega, ← List.drop_drop, List.take_append_drop]
  have e : cs = cs.drop (0 * 4) := by simp
  rw [e, key 0 _ r0, key 1 _ r1, key 2 _ r2, key 3 _ r3, key 4 _ r4, key 5 _ r5, key 6 _ r6, key 7 _ r7, List.drop_of_length_le (by omega)]
  rfl

theorem tab_of_laid {W : World} (h : laidMet Tryd.prog [("intaglio/chacha.rows", Rows.laid_intaglio_chacha_rows)] W) : Tab W := by
  obtain ⟨ps, ⟨g', t', cs, fuel, p, q, hg', ht', hvar, hd, _, _⟩, _⟩ := h
  obtain rfl := Option.some.inj (gTab.symm.trans hg')
  obtain rfl := Option.some.inj (gTabType.symm.trans ht')
  have hcs := tab_cells hd
  unfold World.var? at hvar
  rw [gTab, Option.bind_some] at hvar
  unfold Tab
  cases hh : W.heap[0]? with
  | none => rw [hh] at hvar; cases hvar
  | some o =>
    rw [hh] at hvar
    cases o with
    | cells c t fr =>
      obtain rfl : c = cs := by simpa using hvar
      refine ⟨t, fr, ?_⟩
      rw [← hcs]
    | _ => cases hvar
end Go.Proofs.YtmjjnaaiakchhaaDoor
end

section
/-
  An argument of type 'At' (key, counter, nonce), read.
-/
namespace Go.Proofs.YtmjjnaaiakchhaaDoor
open Go.ChangeShapes Go.WideShapes Go.ChangeAt Go.RowKit

theorem cellsAt : Tryd.prog.cellsOf 26 = 45 := by kernel_rfl
theorem cells32 : Tryd.prog.cellsOf 22 = 32 := by kernel_rfl
theorem cells12 : Tryd.prog.cellsOf 24 = 12 := by kernel_rfl
theorem cellsU32 : Tryd.prog.cellsOf 23 = 1 := by kernel_rfl
theorem cellsU8 : Tryd.prog.cellsOf 5 = 1 := by kernel_rfl

theorem isB_of_wf {zs : List Int} (h : ∀ z ∈ zs, (Lit.int .u8 z).wf = true) : IsB zs := by
  intro z hz
  have := h z hz
  simp [Lit.wf] at this
  have e1 : IntKind.u8.min = 0 := rfl
  have e2 : IntKind.u8.max = 255 := rfl
  omega

theorem at_of_trod {H : Type} {enc : TypeId × Value → H} {w : World} {base : Nat} {sp : Nat → Bool} {held : Bool} {fuel : Nat} {cs : List Value} {x : DataW H × List MemPlace}
    (h : DataW.trod enc Tryd.prog w base sp held fuel 26 cs = some x) :
    ∃ key c nonce, key.length = 32 ∧ nonce.length = 12 ∧ IsB key ∧ IsB nonce ∧ (0 ≤ c ∧ c < 4294967296) ∧ cs = atV key c nonce := by
  obtain ⟨xs, n, _, _, hl, hxl, hf⟩ := DataW.trod_struct Tryd.underlying26 h
  have h0 := hf 0 _ rfl
  have h1 := hf 1 _ rfl
  have h2 := hf 2 _ rfl
  rw [cellsAt] at hl
  match xs, hxl with
  | [x0, x1, x2], _ =>
    obtain ⟨key, hk, e0, w0⟩ := trod_arr_ints Tryd.underlying22 Tryd.underlying5 cellsU8 cells32 h0
    obtain ⟨c, e1, _, w1⟩ := DataW.trod_int Tryd.underlying23 h1
    obtain ⟨nonce, hn, e2, w2⟩ := trod_arr_ints Tryd.underlying24 Tryd.underlying5 cellsU8 cells12 h2
    refine ⟨key, c, nonce, hk, hn, isB_of_wf w0, isB_of_wf w2, ?_, ?_⟩
    · simp [Lit.wf] at w1
      have q1 : IntKind.u32.min = 0 := rfl
      have q2 : IntKind.u32.max = 4294967295 := rfl
      omega
    · have e0' : (cs.drop 0).take (Tryd.prog.cellsOf 22) = bs key := e0
      have e1' : (cs.drop 32).take (Tryd.prog.cellsOf 23) = [.int .u32 c] := e1
      have e2' : (cs.drop 33).take (Tryd.prog.cellsOf 24) = bs nonce := e2
      rw [cells32] at e0'
      rw [cellsU32] at e1'
      rw [cells12] at e2'
      have key2 : ∀ (n k : Nat) (l : List Value), (cs.drop n).take k = l → cs.drop n = l ++ cs.drop (n + k) := by
        intro n k l hl
        rw [← hl, ← List.drop_drop, List.take_append_drop]
      have e : cs = cs.drop 0 := by simp
      rw [e, key2 0 32 _ e0', key2 32 1 _ e1', key2 33 12 _ e2', List.drop_of_length_le (by omega)]
      simp [atV]
end Go.Proofs.YtmjjnaaiakchhaaDoor
end

section
namespace Go.Proofs.YtmjjnaaiakchhaaDoor
open Go.RowKit

/-- Turned left within 32 bits. -/
def rotl (x k : Int) : Int := bits .or .u32 (x * 2 ^ k.toNat % 4294967296) (x / 2 ^ (32 - k).toNat)

theorem and31 (k : Int) (h0 : 0 ≤ k) (h1 : k ≤ 31) : bits .and .u64 k 31 = k := by
  obtain ⟨n, rfl⟩ := Int.eq_ofNat_of_zero_le h0
  have h : n < 32 := by omega
  have := u64_and_nat n 31 (by omega) (by omega)
  rw [show ((31 : Nat) : Int) = 31 from rfl] at this
  rw [this, show n &&& 31 = n from by rw [nat_mask5]; omega]

set_option maxHeartbeats 400000 in
theorem rot_any (x k : Int) (w : World) (h0 : 0 ≤ k) (h1 : k ≤ 31) :
    Calls Tryd.prog 49 #[.int .u32 x, .int .i64 k] w fun e w' => e = .returned (.int .u32 (rotl x k)) ∧ w = w' := by
  have hb := and31 k h0 h1
  go_enter Tryd.func49, Tryd.ntmps49
  go_wp2
  go_ret
  exact ⟨rfl, rfl⟩

set_option maxHeartbeats 400000 in
theorem turn_any (x k : Int) (w : World) (h0 : 0 ≤ k) (h1 : k ≤ 31) :
    Calls Tryd.prog 66 #[.int .u32 x, .int .i64 k] w fun e w' => e = .returned (.int .u32 (rotl x k)) ∧ ∃ n, w' = w.drewN n := by
  go_enter Tryd.func66, Tryd.ntmps66
  go_wp2
  go_quiet (fail)
  go_wp2
  go_ret
  exact ⟨rfl, ⟨_, rfl⟩⟩

theorem results_tmp4 {fn : Func} {t u v x : Tmp} (h : fn.results = #[.tmp t, .tmp u, .tmp v, .tmp x]) (tmps : Array Value) (P : Program) (w : World) :
    (results fn tmps).run P w = .ok (.tuple #[tmps.getD t undef, tmps.getD u undef, tmps.getD v undef, tmps.getD x undef]) w := by
  simp [results, h]

/-- A quarter round. -/
def quarter (a b c d : Int) : Int × Int × Int × Int :=
  let a := (a + b) % 4294967296
  let d := rotl (bits .xor .u32 d a) 16
  let c := (c + d) % 4294967296
  let b := rotl (bits .xor .u32 b c) 12
  let a := (a + b) % 4294967296
  let d := rotl (bits .xor .u32 d a) 8
  let c := (c + d) % 4294967296
  let b := rotl (bits .xor .u32 b c) 7
  (a, b, c, d)

set_option maxHeartbeats 400000 in
theorem quarter_any (a b c d : Int) (w : World) :
    Calls Tryd.prog 35 #[.int .u32 a, .int .u32 b, .int .u32 c, .int .u32 d] w fun e w' => e = .returned (.tuple #[.int .u32 (quarter a b c d).1, .int .u32 (quarter a b c d).2.1, .int .u32 (quarter a b c d).2.2.1, .int .u32 (quarter a b c d).2.2.2]) ∧ w = w' := by
  go_enter Tryd.func35, Tryd.ntmps35
  go_wp2_with (go_at_call 49; refine (rot_any _ _ _ (by omega) (by omega)).mono ?_; rintro e w' ⟨rfl, rfl⟩)
  refine bodyPost_ret (results_tmp4 Tryd.results35 _ _ _) rfl ?_
  exact ⟨by simp [quarter], rfl⟩

set_option maxHeartbeats 400000 in
theorem rquarter_any (a b c d : Int) (w : World) :
    Calls Tryd.prog 51 #[.int .u32 a, .int .u32 b, .int .u32 c, .int .u32 d] w fun e w' => e = .returned (.agg #[.int .u32 (quarter a b c d).1, .int .u32 (quarter a b c d).2.1, .int .u32 (quarter a b c d).2.2.1, .int .u32 (quarter a b c d).2.2.2]) ∧ Below w.heap.size w w' := by
  go_enter Tryd.func51, Tryd.ntmps51
  go_wp2_with (go_at_call 66; refine (turn_any _ _ _ (by omega) (by omega)).mono ?_; rintro e w' ⟨rfl, _, rfl⟩)

  refine bodyPost_ret (v := .agg #[.int .u32 (quarter a b c d).1, .int .u32 (quarter a b c d).2.1, .int .u32 (quarter a b c d).2.2.1, .int .u32 (quarter a b c d).2.2.2]) (by simp [results, Tryd.results51, go_sem, quarter]) rfl ⟨rfl, ?_⟩
  repeat (first | exact Below.refl _ _ | refine bw_set ?_ _ _ (by simp) _ | refine bw_dr ?_ _ | refine bw_al ?_ (by simp) _)

set_option maxHeartbeats 400000 in
theorem awake02_any (w : World) :
    Calls Tryd.prog 18 #[] w fun e w' => e = .returned (.bool true) ∧ w = w' := by
  have h1 : ((quarter 286331153 16909060 2609737539 19088743).1 == 3928658676) = true := by decide +kernel
  have h2 : ((quarter 286331153 16909060 2609737539 19088743).2.1 == 3407673550) = true := by decide +kernel
  have h3 : ((quarter 286331153 16909060 2609737539 19088743).2.2.1 == 1166100270) = true := by decide +kernel
  have h4 : ((quarter 286331153 16909060 2609737539 19088743).2.2.2 == 1484899515) = true := by decide +kernel
  go_enter Tryd.func18, Tryd.ntmps18
  go_wp2_with (go_at_call 35; refine (quarter_any _ _ _ _ _).mono ?_; rintro e w' ⟨rfl, rfl⟩)
  go_ret
  exact ⟨rfl, rfl⟩
end Go.Proofs.YtmjjnaaiakchhaaDoor
end

section
/-
  intaglioref02.at: a quarter round in its places.
-/
namespace Go.Proofs.YtmjjnaaiakchhaaDoor
open Go.RowKit

/-- A quarter round in its places. -/
def qr (s : List Int) (i j k l : Nat) : List Int :=
  let q := quarter (s.getD i 0) (s.getD j 0) (s.getD k 0) (s.getD l 0)
  (((s.set i q.1).set j q.2.1).set k q.2.2.1).set l q.2.2.2
theorem qr_len (s : List Int) (i j k l : Nat) : (qr s i j k l).length = s.length := by simp [qr]

structure AtInv (B g : Nat) (w wr : World) (q s : List Int) : Prop where
  h : B + 1 < g
  g : Blk wr g (us q) 84
  s : Blk wr B (us s) 62
  z : Blk wr (B + 1) (us z16) 62
  b : Below B w wr
theorem AtInv.put {B g : Nat} {w wr : World} {q s : List Int} (h : AtInv B g w wr q s) (i : Nat) (x : Int) : AtInv B g w (wr.setCell ⟨B, i, none⟩ (.int .u32 x)) q (s.set i x) :=
  ⟨h.h, h.g.other (by have := h.h; simp; omega) _, by rw [← us_set]; exact h.s.set i _, h.z.other (by simp) _, bw_set h.b _ _ (Nat.le_refl _) _⟩

set_option maxHeartbeats 1000000 in
theorem at_any (s : List Int) (i j k l : Int) (w : World) (hs : s.length = 16) (hi : 0 ≤ i ∧ i < 16) (hj : 0 ≤ j ∧ j < 16) (hk : 0 ≤ k ∧ k < 16) (hl : 0 ≤ l ∧ l < 16) :
    Calls Tryd.prog 38 #[.agg (us s).toArray, .int .i64 i, .int .i64 j, .int .i64 k, .int .i64 l] w fun e w' => e = .returned (.agg (us (qr s i.toNat j.toNat k.toNat l.toNat)).toArray) ∧ Below w.heap.size w w' := by
  obtain ⟨i, rfl⟩ := Int.eq_ofNat_of_zero_le hi.1
  obtain ⟨j, rfl⟩ := Int.eq_ofNat_of_zero_le hj.1
  obtain ⟨k, rfl⟩ := Int.eq_ofNat_of_zero_le hk.1
  obtain ⟨l, rfl⟩ := Int.eq_ofNat_of_zero_le hl.1
  have HS := Lib.hid hs
  clear hs
  obtain ⟨B, hB⟩ : ∃ B, w.heap.size = B := ⟨_, rfl⟩
  simp only [Int.toNat_natCast]
  go_enter Tryd.func38, Tryd.ntmps38
  go_wp2_with fail
  have b5 : Blk ((w.alloc (.cells (us s).toArray 62)).alloc (.cells (us z16).toArray 62)) B (us s) 62 := (Blk.mk_ _ hB.symm rfl).al _
  have b10 : Blk ((w.alloc (.cells (us s).toArray 62)).alloc (.cells (us z16).toArray 62)) (B + 1) (us z16) 62 := Blk.mk_ _ (by simp [hB]) rfl
  have bb : Below B w ((w.alloc (.cells (us s).toArray 62)).alloc (.cells (us z16).toArray 62)) := bw_al (bw_al (Below.refl _ _) (by omega) _) (by simp; omega) _
  change Code.wp _ _ _ _ ((w.alloc (.cells (us s).toArray 62)).alloc (.cells (us z16).toArray 62))
  generalize ((w.alloc (.cells (us s).toArray 62)).alloc (.cells (us z16).toArray 62)) = w1 at *
  obtain ⟨q, hq⟩ : ∃ q, q = quarter (s.getD i 0) (s.getD j 0) (s.getD k 0) (s.getD l 0) := ⟨_, rfl⟩
  have HQ := Lib.hid hq
  clear hq
  go_cut [11] (fun p wr => ∃ g, p = .pointer (some ⟨g, 0, none⟩) ∧ B + 1 < g ∧ Blk wr g (us [q.1, q.2.1, q.2.2.1, q.2.2.2]) 84 ∧ Blk wr B (us s) 62 ∧ Blk wr (B + 1) (us z16) 62 ∧ Below B w wr)
  case first =>
    rename_i J K' hJ hK'
    refine region_draws
      [(12, .int .i64 i), (13, .pointer (some ⟨B, i, none⟩)), (14, .int .u32 (s.getD i 0)), (15, .int .i64 j), (16, .pointer (some ⟨B, j, none⟩)), (17, .int .u32 (s.getD j 0)),
       (18, .int .i64 k), (19, .pointer (some ⟨B, k, none⟩)), (20, .int .u32 (s.getD k 0)), (21, .int .i64 l), (22, .pointer (some ⟨B, l, none⟩)), (23, .int .u32 (s.getD l 0))] [24, 11]
      (fun L T wr => Blk wr B (us s) 62 ∧ Blk wr (B + 1) (us z16) 62 ∧ Below B w wr ∧ (L 12 = true → T 24 = .agg (us [q.1, q.2.1, q.2.2.1, q.2.2.2]).toArray) ∧
        (L 13 = true → ∃ g, T 11 = .pointer (some ⟨g, 0, none⟩) ∧ B + 1 < g ∧ Blk wr g (if L 14 = true then us [q.1, q.2.1, q.2.2.1, q.2.2.2] else us [0, 0, 0, 0]) 84))
      (fun _ => undef) (by kernel_rfl) (by kernel_rfl) 42 rfl (by kernel_rfl) ⟨b5.d1, b10.d1, bw_d1 bb, (fun h => by simp at h), (fun h => by simp at h)⟩ ?_ ?_
    · simp only [AllFrom]
      refine ⟨?_, ?_, ?_, ?_, ?_, ?_, ?_, ?_, ?_, ?_, ?_, ?_, ?_, ?_, ?_, trivial⟩
      · intro L T w _ _ hG; exact .inl ⟨rfl, rfl⟩
      · intro L T w _ _ hG; refine .inl ⟨rfl, ?_⟩; simp only [execOp]; go_simp
      · intro L T w _ _ hG; have c := hG.1.at_ i (us_get s i (by rw [HS.out]; omega)); refine .inl ⟨rfl, ?_⟩; simp only [execOp]; go_simp
      · intro L T w _ _ hG; exact .inl ⟨rfl, rfl⟩
      · intro L T w _ _ hG; refine .inl ⟨rfl, ?_⟩; simp only [execOp]; go_simp
      · intro L T w _ _ hG; have c := hG.1.at_ j (us_get s j (by rw [HS.out]; omega)); refine .inl ⟨rfl, ?_⟩; simp only [execOp]; go_simp
      · intro L T w _ _ hG; exact .inl ⟨rfl, rfl⟩
      · intro L T w _ _ hG; refine .inl ⟨rfl, ?_⟩; simp only [execOp]; go_simp
      · intro L T w _ _ hG; have c := hG.1.at_ k (us_get s k (by rw [HS.out]; omega)); refine .inl ⟨rfl, ?_⟩; simp only [execOp]; go_simp
      · intro L T w _ _ hG; exact .inl ⟨rfl, rfl⟩
      · intro L T w _ _ hG; refine .inl ⟨rfl, ?_⟩; simp only [execOp]; go_simp
      · intro L T w _ _ hG; have c := hG.1.at_ l (us_get s l (by rw [HS.out]; omega)); refine .inl ⟨rfl, ?_⟩; simp only [execOp]; go_simp
      · intro L T w hL hpre hpost hG
        obtain ⟨h1, h2, h3, h4, h5⟩ := hG
        refine .inl ⟨rfl, fun a K hK => ?_⟩
        simp only [execOp]
        go_simp
        refine (rquarter_any _ _ _ _ _).mono ?_
        rintro e w' ⟨rfl, hb⟩
        refine hK _ _ ⟨h1.stay hb, h2.stay hb, bw_then h3 hb (by have := h3.size; omega), fun _ => by rw [HQ.out]; simp [us], fun h => ?_⟩
        obtain ⟨g, hg1, hg2, hg3⟩ := h5 (by simpa using h)
        exact ⟨g, by simpa using hg1, hg2, by simpa using hg3.stay hb⟩
      · intro L T w hL hpre hpost hG
        obtain ⟨h1, h2, h3, h4, h5⟩ := hG
        have hsz := h3.size
        have h14 : L 14 = false := hpost 14 _ rfl rfl
        refine .inl ⟨rfl, fun a K hK => ?_⟩
        simp only [execOp]
        go_simp
        refine hK _ _ ⟨h1.al _, h2.al _, bw_al h3 (by omega) _, fun h => by simpa using h4 (by simpa using h), fun _ => ⟨w.heap.size, by simp, h2.lt, ?_⟩⟩
        simp only [h14]
        exact Blk.mk_ _ rfl rfl
      · intro L T w hL hpre hpost hG
        obtain ⟨h1, h2, h3, h4, h5⟩ := hG
        obtain ⟨g, hg1, hg2, hg3⟩ := h5 (hpre 13 rfl rfl)
        rw [if_neg (by simp [hL])] at hg3
        refine .inl ⟨rfl, fun a K hK => ?_⟩
        refine upon_store_blk 84 _ _ rfl (cs' := us [q.1, q.2.1, q.2.2.1, q.2.2.2]) hg1 (h4 (hpre 12 rfl rfl)) hg3 (us_one _) rfl (n := 4) (by kernel_rfl) rfl ?_
        intro w' hb ho
        refine hK _ _ ⟨h1.only ho (by omega), h2.only ho (by omega), ho.below h3 (by omega), fun _ => by simpa using h4 (hpre 12 rfl rfl), fun _ => ⟨g, by simpa using hg1, hg2, by simpa using hb⟩⟩
    · intro L T w hall hG
      obtain ⟨h1, h2, h3, h4, h5⟩ := hG
      obtain ⟨g, hg1, hg2, hg3⟩ := h5 (hall 13 (by decide) rfl)
      rw [if_pos (hall 14 (by decide) rfl)] at hg3
      simp only [fillT, fillP, List.foldl_cons, List.foldl_nil]
      refine hK' _ _ (Met.intro (hJ _ _ ?_))
      simp only [Act.put]
      go_simp
  case rest =>
    obtain ⟨g, rfl, hBg, hgB, hBs, hBz, hbb⟩ := hcut
    have inv0 : AtInv B g w wc [q.1, q.2.1, q.2.2.1, q.2.2.2] s := ⟨hBg, hgB, hBs, hBz, hbb⟩
    clear hBg hgB hBs hBz hbb
    have c1 := inv0.s.at_ i (us_get _ i (by rw [HS.out]; omega))
    have c2 := inv0.s.free i
    have c3 := inv0.g.at_ 0 (us_get [q.1, q.2.1, q.2.2.1, q.2.2.2] 0 (by simp))
    have inv1 := inv0.put i q.1
    go_upto_region 3 with fail
    clear c1 c2 c3 inv0
    generalize wc.setCell ⟨B, i, none⟩ (.int .u32 q.1) = w2 at *
    have c1 := inv1.s.at_ j (us_get _ j (by simp only [List.length_set]; rw [HS.out]; omega))
    have c2 := inv1.s.free j
    have c3 := inv1.g.at_ 1 (us_get [q.1, q.2.1, q.2.2.1, q.2.2.2] 1 (by simp))
    have inv2 := inv1.put j q.2.1
    go_upto_region 4 with fail
    clear c1 c2 c3 inv1
    generalize w2.setCell ⟨B, j, none⟩ (.int .u32 q.2.1) = w3 at *
    have c1 := inv2.s.at_ k (us_get _ k (by simp only [List.length_set]; rw [HS.out]; omega))
    have c2 := inv2.s.free k
    have c3 := inv2.g.at_ 2 (us_get [q.1, q.2.1, q.2.2.1, q.2.2.2] 2 (by simp))
    have inv3 := inv2.put k q.2.2.1
    go_upto_region 5 with fail
    clear c1 c2 c3 inv2
    generalize w3.setCell ⟨B, k, none⟩ (.int .u32 q.2.2.1) = w4 at *
    have c1 := inv3.s.at_ l (us_get _ l (by simp only [List.length_set]; rw [HS.out]; omega))
    have c2 := inv3.s.free l
    have c3 := inv3.g.at_ 3 (us_get [q.1, q.2.1, q.2.2.1, q.2.2.2] 3 (by simp))
    have inv4 := inv3.put l q.2.2.2
    go_upto_region 6 with fail
    clear c1 c2 c3 inv3
    generalize w4.setCell ⟨B, l, none⟩ (.int .u32 q.2.2.2) = w5 at *
    go_wp2_with (first
      | (refine wp_load_blk rfl 62 (.tmp 5) rfl rfl inv4.s Tryd.underlying62 rfl (n := 16) (by kernel_rfl) (by rw [us_len]; simp only [List.length_set]; rw [HS.out]) ?_)
      | (refine wp_store_blk rfl 62 (.tmp 10) (.tmp 41) rfl rfl rfl inv4.z (us_one _) (by rw [us_len, us_len]; simp only [List.length_set]; rw [HS.out]; rfl) (n := 16) (by kernel_rfl) (by rw [us_len]; simp only [List.length_set]; rw [HS.out]) ?_; intro w' hb ho))
    refine ret_blk rfl rfl hb Tryd.underlying62 rfl (n := 16) (by kernel_rfl) (by rw [us_len]; simp only [List.length_set]; rw [HS.out]) rfl ?_
    rw [hB]
    refine ⟨?_, ho.below inv4.b (by omega)⟩
    simp only [qr, ← HQ.out]
end Go.Proofs.YtmjjnaaiakchhaaDoor
end

section
/-
  intaglioref01.Low: a number's bytes, the lowest first.
-/
namespace Go.Proofs.YtmjjnaaiakchhaaDoor
open Go.RowKit

theorem div_256 (x : Int) (k : Nat) : x / 2 ^ (8 * k) / 256 = x / 2 ^ (8 * (k + 1)) := by
  rw [Int.ediv_ediv_of_nonneg (by exact Int.pow_nonneg (by decide)), show 8 * (k + 1) = 8 * k + 8 from by omega, Int.pow_add, show (2 : Int) ^ 8 = 256 from by decide]
theorem div_pow_le (x : Int) (k : Nat) (h : 0 ≤ x ∧ x < 18446744073709551616) : 0 ≤ x / 2 ^ (8 * k) ∧ x / 2 ^ (8 * k) < 18446744073709551616 := by
  refine ⟨Int.ediv_nonneg h.1 (Int.pow_nonneg (by decide)), Int.lt_of_le_of_lt (Int.ediv_le_self _ h.1) h.2⟩

set_option maxHeartbeats 1000000 in
theorem rlow_any (x n : Int) (w : World) (hx0 : 0 ≤ x) (hx1 : x < 18446744073709551616) (h0 : 0 ≤ n) (hn : n ≤ 1000) :
    Calls Tryd.prog 39 #[.int .u64 x, .int .i64 n] w fun e w' => NewB (lowN x n.toNat) w e w' := by
  obtain ⟨n, rfl⟩ := Int.eq_ofNat_of_zero_le h0
  simp only [Int.toNat_natCast]
  go_enter Tryd.func39, Tryd.ntmps39
  go_wp2_with fail
  go_loopw [0, 5, 6] (fun x' v i wr => ∃ k : Nat, k ≤ n ∧ i = .int .i64 k ∧ x' = .int .u64 (x / 2 ^ (8 * k)) ∧ wr.ownsRow w.heap.size 5 1 v k (bs (lowN x k)) ∧ Below w.heap.size w wr) (fun _ _ i _ => n - (intOf i).toNat)
  case atStart => exact ⟨0, Nat.zero_le _, rfl, by simp, World.ownsRow_nil _ _ _ _, Below.refl _ _⟩
  case round =>
    obtain ⟨k, hk, rfl, rfl, hown, hb⟩ := hrel
    have hd := div_pow_le x k ⟨hx0, hx1⟩
    obtain ⟨y, hy⟩ : ∃ y, x / 2 ^ (8 * k) = y := ⟨_, rfl⟩
    rw [hy] at hd ⊢
    by_cases hlt : k < n
    · have hsz := hb.size
      have hy' := Lib.hid hy
      clear hy
      go_wp2_with (at_builtin; refine wp_app _ _ 30 rfl rfl 5 (.int .u8 0) 1 Tryd.underlying30 info5 rfl w.heap.size rfl (hown.alloc _) rfl (Rd.one _ _ _) (by intro y hy; simp at hy; subst hy; rfl) (by decide) (by simp; omega) (by simp; omega) ?_; intro v2 w2 hown2 _ hb2)
      go_roundw
      case rel =>
        refine ⟨k + 1, by omega, by go_num, ?_, by simpa [lowN, bs, hy'.out] using hown2, (hb.alloc hsz _).trans hb2⟩
        rw [← div_256, hy'.out]
      case measure => simp [intOf]; omega
    · obtain rfl : k = n := by omega
      clear hy
      go_wp2
      go_ret
      exact ⟨_, rfl, hb, by rw [lowN_len]; exact hown⟩
end Go.Proofs.YtmjjnaaiakchhaaDoor
end

section
/-
  intaglioref02.Block: the document's block.
-/
namespace Go.Proofs.YtmjjnaaiakchhaaDoor
open Go.RowKit

def roundA (s : List Int) : Nat → List Int
  | 0 => s
  | k + 1 => qr (roundA s k) k (4 + k) (8 + k) (12 + k)
def roundB (s : List Int) : Nat → List Int
  | 0 => s
  | k + 1 => qr (roundB s k) k (4 + (k + 1) % 4) (8 + (k + 2) % 4) (12 + (k + 3) % 4)
def rounds (s : List Int) : Nat → List Int
  | 0 => s
  | i + 1 => roundB (roundA (rounds s i) 4) 4
theorem roundA_len (s : List Int) (k : Nat) : (roundA s k).length = s.length := by induction k with | zero => rfl | succ k ih => simp [roundA, qr_len, ih]
theorem roundB_len (s : List Int) (k : Nat) : (roundB s k).length = s.length := by induction k with | zero => rfl | succ k ih => simp [roundB, qr_len, ih]
theorem rounds_len (s : List Int) (k : Nat) : (rounds s k).length = s.length := by induction k with | zero => rfl | succ k ih => simp [rounds, roundA_len, roundB_len, ih]
def outK (s was : List Int) : Nat → List Int
  | 0 => []
  | i + 1 => outK s was i ++ lowN ((s.getD i 0 + was.getD i 0) % 4294967296) 4
theorem outK_len (s was : List Int) (k : Nat) : (outK s was k).length = 4 * k := by induction k with | zero => rfl | succ k ih => simp [outK, lowN_len, ih]; omega
def block (key : List Int) (c : Int) (nonce : List Int) : List Int := outK (rounds (beginN key c nonce 12) 10) (beginN key c nonce 12) 16

structure BRInv (B g : Nat) (w wr : World) (xs : List Value) (s : List Int) : Prop where
  h : B < g
  x : Blk wr B xs 26
  s : Blk wr g (us s) 62
  b : Below B w wr

theorem BRInv.step {B g : Nat} {w wr w' w2 : World} {xs : List Value} {s s' : List Int} (h : BRInv B g w wr xs s) (hb : Below wr.heap.size wr w') (hs : Blk w2 g (us s') 62) (ho : Only g w' w2) : BRInv B g w w2 xs s' :=
  ⟨h.h, (h.x.stay hb).only ho (by have := h.h; omega), hs, ho.below (bw_then h.b hb (by have := h.x.lt; omega)) (by have := h.h; omega)⟩

set_option maxRecDepth 8000 in
set_option maxHeartbeats 1000000 in
theorem blockr_any (key nonce : List Int) (c : Int) (w : World) (hk : key.length = 32) (hn : nonce.length = 12) (hkb : IsB key) (hnb : IsB nonce) :
    Calls Tryd.prog 17 #[.agg (atV key c nonce).toArray] w fun e w' => NewB (block key c nonce) w e w' := by
  have HA := Lib.hid (show (atV key c nonce).length = 45 by rw [atV_len, hk, hn])
  have HC := Lib.hid (fun w => begin_any key nonce c w hk hn hkb hnb)
  clear hk hn hkb hnb
  obtain ⟨B, hB⟩ : ∃ B, w.heap.size = B := ⟨_, rfl⟩
  go_enter Tryd.func17, Tryd.ntmps17
  go_upto_region 1 with fail
  have b1 : Blk (w.alloc (.cells (atV key c nonce).toArray 26)) B (atV key c nonce) 26 := Blk.mk_ _ hB.symm rfl
  have bb : Below B w (w.alloc (.cells (atV key c nonce).toArray 26)) := bw_al (Below.refl _ _) (by omega) _
  generalize w.alloc (.cells (atV key c nonce).toArray 26) = w1 at *
  go_wp2_with (first
      | (refine wp_load_blk rfl 26 (.tmp 1) rfl rfl b1 Tryd.underlying26 rfl (n := 45) (by kernel_rfl) HA.out ?_)
      | (go_at_call 37; refine (HC.out _).mono ?_; rintro e w' ⟨rfl, hb⟩)
      | (refine wp_store_blk rfl 62 (.tmp 3) (.tmp 11) rfl rfl rfl (cs := us z16) (Blk.mk_ _ rfl rfl) (us_one _) (by rw [us_len, beginN_len]; rfl) (n := 16) (by kernel_rfl) (by rw [us_len, beginN_len]) ?_; intro w2 hb2 ho2))
  have hs1 := hb.size
  have hg1 : B < w1.heap.size := b1.lt
  have inv0 : BRInv B w'.heap.size w w2 (atV key c nonce) (rounds (beginN key c nonce 12) 0) := ⟨by omega, ((b1.stay hb).al _).only ho2 (by omega), hb2, ho2.below (bw_al (bw_then bb hb (by omega)) (by omega) _) (by omega)⟩
  obtain ⟨s0, hs0⟩ : ∃ s0, beginN key c nonce 12 = s0 := ⟨_, rfl⟩
  have hl0 : s0.length = 16 := by rw [← hs0, beginN_len]
  have HL := Lib.hid hl0
  have HS := Lib.hid (fun _ : Unit => hs0)
  rw [hs0] at inv0
  clear hl0 hs0 hb2 ho2 hb bb b1
  generalize w'.heap.size = g at *
  go_loopw [4] (fun i wr => ∃ j : Nat, j ≤ 10 ∧ i = .int .i64 j ∧ BRInv B g w wr (atV key c nonce) (rounds s0 j)) (fun i _ => 10 - (intOf i).toNat)
  case atStart => exact ⟨0, by omega, rfl, inv0⟩
  case round =>
    obtain ⟨j, hj, rfl, inv⟩ := hrel
    by_cases hlt : j < 10
    · go_wp2_with fail
      simp only [show decide ((j : Int) < 10) = true from decide_eq_true (by omega)]
      go_loopw [5] (fun i wr => ∃ k : Nat, k ≤ 4 ∧ i = .int .i64 k ∧ BRInv B g w wr (atV key c nonce) (roundA (rounds s0 j) k)) (fun i _ => 4 - (intOf i).toNat)
      case atStart => exact ⟨0, by omega, rfl, inv⟩
      case round =>
        obtain ⟨k, hk, rfl, inv⟩ := hrel
        by_cases hlk : k < 4
        · have hl := roundA_len (rounds s0 j) k
          rw [rounds_len, HL.out] at hl
          have HL2 := Lib.hid hl
          clear hl
          go_wp2_with (first
            | (refine wp_load_blk rfl 62 (.tmp 3) rfl rfl inv.s Tryd.underlying62 rfl (n := 16) (by kernel_rfl) (by rw [us_len, HL2.out]) ?_)
            | (go_at_call 38; refine (at_any _ _ _ _ _ _ HL2.out (by omega) (by omega) (by omega) (by omega)).mono ?_; rintro e w' ⟨rfl, hb⟩)
            | (refine wp_store_blk rfl 62 (.tmp 3) (.tmp 28) rfl rfl rfl (inv.s.stay hb) (us_one _) (by rw [us_len, us_len, qr_len]) (n := 16) (by kernel_rfl) (by rw [us_len, qr_len, HL2.out]) ?_; intro w2 hb2 ho2))
          go_roundw
          case rel =>
            refine ⟨k + 1, by omega, by go_num, inv.step hb ?_ ho2⟩
            exact hb2
          case measure => simp [intOf]; omega
        · obtain rfl : k = 4 := by omega
          simp only [Int.cast_ofNat_Int]
          go_wp2_with fail
          go_loopw [6] (fun i wr => ∃ k : Nat, k ≤ 4 ∧ i = .int .i64 k ∧ BRInv B g w wr (atV key c nonce) (roundB (roundA (rounds s0 j) 4) k)) (fun i _ => 4 - (intOf i).toNat)
          case atStart => exact ⟨0, by omega, rfl, inv⟩
          case round =>
            obtain ⟨k, hk, rfl, inv⟩ := hrel
            by_cases hlk : k < 4
            · have hl := roundB_len (roundA (rounds s0 j) 4) k
              rw [roundA_len, rounds_len, HL.out] at hl
              have HL2 := Lib.hid hl
              clear hl
              go_wp2_with (first
                | (refine wp_load_blk rfl 62 (.tmp 3) rfl rfl inv.s Tryd.underlying62 rfl (n := 16) (by kernel_rfl) (by rw [us_len, HL2.out]) ?_)
                | (go_at_call 38; refine (at_any _ _ _ _ _ _ HL2.out (by omega) (by omega) (by omega) (by omega)).mono ?_; rintro e w' ⟨rfl, hb⟩)
                | (refine wp_store_blk rfl 62 (.tmp 3) (.tmp 47) rfl rfl rfl (inv.s.stay hb) (us_one _) (by rw [us_len, us_len, qr_len]) (n := 16) (by kernel_rfl) (by rw [us_len, qr_len, HL2.out]) ?_; intro w2 hb2 ho2))
              go_roundw
              case rel =>
                refine ⟨k + 1, by omega, by go_num, inv.step hb ?_ ho2⟩
                exact hb2
              case measure => simp [intOf]; omega
            · obtain rfl : k = 4 := by omega
              go_wp2_with fail
              go_roundw
              case rel => exact ⟨j + 1, by omega, by go_num, inv⟩
              case measure => simp [intOf]; omega
    · obtain rfl : j = 10 := by omega
      simp only [Int.cast_ofNat_Int]
      have hl := rounds_len s0 10
      rw [HL.out] at hl
      obtain ⟨sr, hsr⟩ : ∃ sr, rounds s0 10 = sr := ⟨_, rfl⟩
      rw [hsr] at inv hl
      have HR := Lib.hid hl
      have HSR := Lib.hid (fun _ : Unit => hsr)
      clear hl hsr
      go_wp2_with (first
        | (refine wp_load_blk rfl 26 (.tmp 1) rfl rfl inv.x Tryd.underlying26 rfl (n := 45) (by kernel_rfl) HA.out ?_)
        | (go_at_call 37; refine (HC.out _).mono ?_; rintro e w' ⟨rfl, hb⟩)
        | (refine wp_store_blk rfl 62 (.tmp 8) (.tmp 49) rfl rfl rfl (cs := us z16) (Blk.mk_ _ rfl rfl) (us_one _) (by rw [us_len, beginN_len]; rfl) (n := 16) (by kernel_rfl) (by rw [us_len, beginN_len]) ?_; intro w2 hb2 ho2))
      have inv1 : BRInv B g w (w'.alloc (.cells (us z16).toArray 62)) (atV key c nonce) (sr) := ⟨inv.h, (inv.x.stay hb).al _, (inv.s.stay hb).al _, bw_al (bw_then inv.b hb (by have := inv.x.lt; omega)) (by have := inv.x.lt; have := hb.size; omega) _⟩
      have hgg : g < w'.heap.size := (inv.s.stay hb).lt
      have inv2 : BRInv B g w w2 (atV key c nonce) (sr) := ⟨inv1.h, inv1.x.only ho2 (by have := inv.h; omega), inv1.s.only ho2 (by omega), ho2.below inv1.b (by have := inv.h; omega)⟩
      rw [HS.out ()] at hb2
      clear inv1 ho2 hb inv
      generalize w'.heap.size = h at *
      go_loopw [7, 9] (fun v i wr => ∃ k : Nat, k ≤ 16 ∧ i = .int .i64 k ∧ BRInv B g w wr (atV key c nonce) (sr) ∧ Blk wr h (us s0) 62 ∧ h < wr.heap.size ∧ wr.ownsRow (h + 1) 5 1 v (4 * k) (bs (outK (sr) s0 k))) (fun _ i _ => 16 - (intOf i).toNat)
      case atStart => exact ⟨0, by omega, rfl, inv2, hb2, hb2.lt, World.ownsRow_nil _ _ _ _⟩
      case round =>
        obtain ⟨k, hk, rfl, inv, hb2, hh, hown⟩ := hrel
        by_cases hlk : k < 16
        · go_upto_region 18 with fail
          refine region_draws_old [(54, ?v54), (55, ?v55), (56, ?v56), (57, ?v57), (58, ?v58), (59, ?v59), (60, ?v60), (61, ?v61), (62, ?v62)] [63, 64, 7] [(0, [7])]
            (fun L T wr => BRInv B g w wr (atV key c nonce) sr ∧ Blk wr h (us s0) 62 ∧ h < wr.heap.size ∧ (L 10 = false → wr.ownsRow (h + 1) 5 1 u7 (4 * k) (bs (outK sr s0 k))) ∧
              (L 9 = true → L 10 = false → Rd wr (T 63) (bs (lowN ((sr.getD k 0 + s0.getD k 0) % 4294967296) 4))) ∧
              (L 10 = true → wr.ownsRow (h + 1) 5 1 (T 64) (4 * (k + 1)) (bs (outK sr s0 (k + 1)))) ∧ (L 11 = true → T 7 = T 64))
            (fun _ => undef) (by kernel_rfl) (by kernel_rfl) 66 rfl (by kernel_rfl) ?g0 ?hops ?hend
          case g0 => exact ⟨⟨inv.h, inv.x.d1, inv.s.d1, bw_d1 inv.b⟩, hb2.d1, hh, fun _ => hown, (fun h => by simp at h), (fun h => by simp at h), (fun h => by simp at h)⟩
          case hops =>
            simp only [AllFrom]
            refine ⟨?_, ?_, ?_, ?_, ?_, ?_, ?_, ?_, ?_, ?_, ?_, ?_, trivial⟩
            · (intro L T w hpre hpost hG; skip; first | exact .inl ⟨rfl, rfl⟩ | (refine .inl ⟨rfl, ?_⟩; simp only [execOp]; go_simp; (try go_ints); (try go_simp); (try rw [if_pos (by omega)]); (first | done | rfl)))
            · (intro L T w hpre hpost hG; skip; first | exact .inl ⟨rfl, rfl⟩ | (refine .inl ⟨rfl, ?_⟩; simp only [execOp]; go_simp; (try go_ints); (try go_simp); (try rw [if_pos (by omega)]); (first | done | rfl)))
            · (intro L T w hpre hpost hG; skip; first | exact .inl ⟨rfl, rfl⟩ | (refine .inl ⟨rfl, ?_⟩; simp only [execOp]; go_simp; (try go_ints); (try go_simp); (try rw [if_pos (by omega)]); (first | done | rfl)))
            · (intro L T w hpre hpost hG; (have c := hG.1.s.at_ k (us_get _ _ (by rw [HR.out]; omega))); first | exact .inl ⟨rfl, rfl⟩ | (refine .inl ⟨rfl, ?_⟩; simp only [execOp]; go_simp; (try go_ints); (try go_simp); (try rw [if_pos (by omega)]); (first | done | rfl)))
            · (intro L T w hpre hpost hG; skip; first | exact .inl ⟨rfl, rfl⟩ | (refine .inl ⟨rfl, ?_⟩; simp only [execOp]; go_simp; (try go_ints); (try go_simp); (try rw [if_pos (by omega)]); (first | done | rfl)))
            · (intro L T w hpre hpost hG; skip; first | exact .inl ⟨rfl, rfl⟩ | (refine .inl ⟨rfl, ?_⟩; simp only [execOp]; go_simp; (try go_ints); (try go_simp); (try rw [if_pos (by omega)]); (first | done | rfl)))
            · (intro L T w hpre hpost hG; (have c := hG.2.1.at_ k (us_get _ _ (by rw [HL.out]; omega))); first | exact .inl ⟨rfl, rfl⟩ | (refine .inl ⟨rfl, ?_⟩; simp only [execOp]; go_simp; (try go_ints); (try go_simp); (try rw [if_pos (by omega)]); (first | done | rfl)))
            · (intro L T w hpre hpost hG; skip; first | exact .inl ⟨rfl, rfl⟩ | (refine .inl ⟨rfl, ?_⟩; simp only [execOp]; go_simp; (try go_ints); (try go_simp); (try rw [if_pos (by omega)]); (first | done | rfl)))
            · (intro L T w hpre hpost hG; skip; first | exact .inl ⟨rfl, rfl⟩ | (refine .inl ⟨rfl, ?_⟩; simp only [execOp]; go_simp; (try go_ints); (try go_simp); (try rw [if_pos (by omega)]); (first | done | rfl)))
            · intro L T w hL hpre hpost hG
              obtain ⟨h1, h2, h3, h4, h5, h6, h7⟩ := hG
              have h10 : L 10 = false := hpost 10 _ rfl rfl
              refine .inl ⟨rfl, fun a K hK => ?_⟩
              simp only [execOp]
              go_simp
              refine (rlow_any _ _ _ (by omega) (by omega) (by omega) (by omega)).mono ?_
              rintro e w' ⟨v, rfl, hb, ho⟩
              refine hK _ _ ⟨⟨h1.h, h1.x.stay hb, h1.s.stay hb, bw_then h1.b hb (by have := h1.x.lt; omega)⟩, h2.stay hb, by have := hb.size; omega, fun _ => ownsRow_keep (h4 h10) hb (Nat.le_refl _), fun _ _ => ?_, ?_, ?_⟩
              · simpa using Rd.of_own ho
              · intro h; simp [h10] at h
              · have h11 : L 11 = false := hpost 11 _ rfl rfl
                intro h; simp [h11] at h
            · intro L T w hL hpre hpost hG
              obtain ⟨h1, h2, h3, h4, h5, h6, h7⟩ := hG
              refine .inl ⟨rfl, fun a K hK => ?_⟩
              refine upon_app (.tmp 54) (.tmp 63) 30 rfl 5 (.int .u8 0) 1 Tryd.underlying30 info5 rfl (h + 1) rfl (h4 hL) rfl (h5 (hpre 9 rfl rfl) hL) (bs_one _) (by decide) (by rw [bs_len, lowN_len]; omega) (by omega) ?_
              intro v' w' ho hb
              have h11 : L 11 = false := hpost 11 _ rfl rfl
              have hs := hb.size
              refine hK _ _ ⟨⟨h1.h, h1.x.keep hb (by have := h1.h; omega), h1.s.keep hb (by omega), h1.b.trans (hb.mono (by have := h1.h; omega))⟩, h2.keep hb (by omega), by omega, fun h => by simp at h, fun _ h => by simp at h, fun _ => ?_, fun h => by simp [h11] at h⟩
              simpa [bs_append, outK, lowN_len, bs_len, Nat.mul_add] using ho
            · intro L T w hL hpre hpost hG
              obtain ⟨h1, h2, h3, h4, h5, h6, h7⟩ := hG
              have h10 : L 10 = true := hpre 10 rfl rfl
              have h9 : L 9 = true := hpre 9 rfl rfl
              refine .inl ⟨rfl, fun a K hK => ?_⟩
              simp only [execOp]
              go_simp
              refine hK _ _ ⟨h1, h2, h3, fun h => by simp [h10] at h, fun _ h => by simp [h10] at h, fun _ => by simpa using h6 h10, fun _ => by simp⟩
          case hend =>
            intro L T w hall hG
            obtain ⟨h1, h2, h3, h4, h5, h6, h7⟩ := hG
            have h8 := h6 (hall 10 (by decide) rfl)
            have h9 := h7 (hall 11 (by decide) rfl)
            rw [← h9] at h8
            simp only [fillT, fillP, List.foldl_cons, List.foldl_nil, Act.put]
            clear h9
            go_wp2_with fail
            refine ⟨⟨k + 1, by omega, by go_num, h1, h2, h3, h8⟩, by simp [intOf]; omega⟩
        · obtain rfl : k = 16 := by omega
          go_wp2_with fail
          go_ret
          refine ⟨_, rfl, ?_, ?_⟩ <;> rw [hB]
          · exact inv.b
          · rw [show block key c nonce = outK sr s0 16 from by rw [block, HS.out (), HSR.out ()], outK_len]
            exact ownsRow_mono hown (by have := inv.h; omega)
end Go.Proofs.YtmjjnaaiakchhaaDoor
end

section
/-
  The two beginnings are one: what chacha.first makes is what intaglioref02.begin makes. Plain.
-/
namespace Go.Proofs.YtmjjnaaiakchhaaDoor

theorem plus_at (xs s : List Int) (at_ i j : Nat) (hj : j < 4) : plusK xs at_ (4 * i + j) s = s.set (at_ + i) ((s.getD (at_ + i) 0 + xs.getD (4 * i + j) 0 % 4294967296 * 2 ^ (8 * j)) % 4294967296) := by
  rw [plusK, show (4 * i + j) / 4 = i from by omega, show (4 * i + j) % 4 = j from by omega]
theorem getD_set_same (s : List Int) (i : Nat) (x : Int) (h : i < s.length) : (s.set i x).getD i 0 = x := by
  simp [List.getD_eq_getElem?_getD, h]
theorem getD_set_other (s : List Int) (i j : Nat) (x : Int) (h : i ≠ j) : (s.set i x).getD j 0 = s.getD j 0 := by
  simp [List.getD_eq_getElem?_getD, List.getElem?_set_ne h]
theorem four (xs s : List Int) (at_ i : Nat) (hb : IsB xs) (hl : at_ + i < s.length) (h0 : s.getD (at_ + i) 0 = 0) :
    plusK xs at_ (4 * i + 3) (plusK xs at_ (4 * i + 2) (plusK xs at_ (4 * i + 1) (plusK xs at_ (4 * i + 0) s))) = s.set (at_ + i) (leN xs (4 * i) 4) := by
  rw [plus_at _ _ _ _ 0 (by decide), plus_at _ _ _ _ 1 (by decide), plus_at _ _ _ _ 2 (by decide), plus_at _ _ _ _ 3 (by decide), h0]
  simp only [List.set_set, getD_set_same _ _ _ hl]
  congr 1
  have b0 := hb.at_ (4 * i + 0)
  have b1 := hb.at_ (4 * i + 1)
  have b2 := hb.at_ (4 * i + 2)
  have b3 := hb.at_ (4 * i + 3)
  simp only [leN, Nat.add_zero] at *
  generalize xs.getD (4 * i) 0 = x0 at *
  generalize xs.getD (4 * i + 1) 0 = x1 at *
  generalize xs.getD (4 * i + 2) 0 = x2 at *
  generalize xs.getD (4 * i + 3) 0 = x3 at *
  omega
theorem firstK_zero (key : List Int) (i j : Nat) (hj : i ≤ j) (hj2 : j < 12) : (firstK key i).getD (4 + j) 0 = 0 := by
  induction i with
  | zero =>
    have : ∀ j : Nat, j < 12 → (firstK [] 0).getD (4 + j) 0 = 0 := by decide
    exact this j hj2
  | succ i ih => rw [firstK, getD_set_other _ _ _ _ (by omega)]; exact ih (by omega)
theorem firstN_zero (key : List Int) (c : Int) (nonce : List Int) (i j : Nat) (hj : i ≤ j) (hj2 : j < 3) : (firstN key c nonce i).getD (13 + j) 0 = 0 := by
  induction i with
  | zero =>
    rw [firstN, getD_set_other _ _ _ _ (by omega), show 13 + j = 4 + (9 + j) from by omega]
    exact firstK_zero key 8 (9 + j) (by omega) (by omega)
  | succ i ih => rw [firstN, getD_set_other _ _ _ _ (by omega)]; exact ih (by omega)
theorem beginK_first (key : List Int) (hb : IsB key) (i : Nat) (hi : i ≤ 8) : beginK key (4 * i) = firstK key i := by
  induction i with
  | zero => rfl
  | succ i ih =>
    show plusK key 4 (4 * i + 3) (plusK key 4 (4 * i + 2) (plusK key 4 (4 * i + 1) (plusK key 4 (4 * i + 0) (beginK key (4 * i))))) = _
    rw [ih (by omega), four key _ 4 i hb (by rw [firstK_len]; omega) (firstK_zero key i i (Nat.le_refl _) (by omega))]
    rfl
theorem beginN_first (key : List Int) (c : Int) (nonce : List Int) (hb : IsB key) (hn : IsB nonce) (i : Nat) (hi : i ≤ 3) : beginN key c nonce (4 * i) = firstN key c nonce i := by
  induction i with
  | zero =>
    show (beginK key (4 * 8)).set 12 c = _
    rw [beginK_first key hb 8 (Nat.le_refl _)]
    rfl
  | succ i ih =>
    show plusK nonce 13 (4 * i + 3) (plusK nonce 13 (4 * i + 2) (plusK nonce 13 (4 * i + 1) (plusK nonce 13 (4 * i + 0) (beginN key c nonce (4 * i))))) = _
    rw [ih (by omega), four nonce _ 13 i hn (by rw [firstN_len]; omega) (firstN_zero key c nonce i i (Nat.le_refl _) (by omega))]
    rfl
theorem first_begin (key : List Int) (c : Int) (nonce : List Int) (hb : IsB key) (hn : IsB nonce) : firstN key c nonce 3 = beginN key c nonce 12 := (beginN_first key c nonce hb hn 3 (Nat.le_refl _)).symm
end Go.Proofs.YtmjjnaaiakchhaaDoor
end

section
/-
  chacha.Block: the program's block.
-/
namespace Go.Proofs.YtmjjnaaiakchhaaDoor
open Go.RowKit

theorem rows_lt (i : Nat) : rowsL.getD i 0 < 16 := by
  by_cases h : i < 32
  · revert i; decide
  · rw [List.getD_eq_getElem?_getD, List.getElem?_eq_none (by simp [rowsL]; omega)]; decide
theorem ns_get (xs : List Nat) (i : Nat) (h : i < xs.length) : (ns xs)[i]? = some (.int .i64 (xs.getD i 0 : Nat)) := by simp [ns, List.getD_eq_getElem?_getD, h]
theorem ns_one (xs : List Nat) : ∀ y ∈ ns xs, y.oneCell' = true := by
  intro y hy
  obtain ⟨x, _, rfl⟩ := List.mem_map.1 hy
  rfl
theorem ns_len (xs : List Nat) : (ns xs).length = xs.length := by simp [ns]

def rowAt (k j : Nat) : Nat := rowsL.getD (4 * k + j) 0
def crow (s : List Int) : Nat → List Int
  | 0 => s
  | k + 1 => qr (crow s k) (rowAt k 0) (rowAt k 1) (rowAt k 2) (rowAt k 3)
theorem crow_len (s : List Int) (k : Nat) : (crow s k).length = s.length := by induction k with | zero => rfl | succ k ih => simp [crow, qr_len, ih]
theorem crow_all (s : List Int) : crow s 8 = roundB (roundA s 4) 4 := rfl
theorem rowAt_lt (k j : Nat) : rowAt k j < 16 := rows_lt _


theorem index_rows (w : World) (k : Nat) (hk : k < 8) : (Instr.index 65 (.agg (ns rowsL).toArray) (.int .i64 (k : Int))).run Tryd.prog w = .ok (.agg (ns [rowAt k 0, rowAt k 1, rowAt k 2, rowAt k 3]).toArray) w := by
  rcases k with _ | _ | _ | _ | _ | _ | _ | _ | k
  all_goals first | omega | kernel_rfl

theorem run_index_us {P : Program} {w : World} {t e : TypeId} {n : Nat} {k' k : IntKind} (hu : P.underlying t = some (.array n e)) (he : P.underlying e = some (.int k')) (hs : (P.info? e).map (·.size) = some 1)
    (cs : Array Value) (i : Nat) {v : Value} (hi : i < n) (hv : cs[i]? = some v) : (Instr.index t (.agg cs) (.int k (i : Int))).run P w = .ok v w := by
  obtain ⟨q, hq1, hq2⟩ := Option.map_eq_some_iff.1 hs
  have h1 : (0 : Int) ≤ (i : Int) ∧ (i : Int) < (n : Int) := by omega
  have h2 := run_part_int (P := P) (w := w) he cs i v hv
  simp [Instr.index, run_underlying hu, asIntOf, h1, sizeOf, typeInfo, hq1, hq2, hi, h2]

theorem upon_copy {P : Program} {o : Oper} {ρ : Operand → Value} {a : Act} {w : World} {K : Act → World → Prop} {Q : Exit → Act → World → Prop} (d s : Operand) (dT sT : TypeId)
    (ho : o.op = .call { callee := .builtin .copy, args := #[d, s], argTypes := #[dT, sT] }) (elem : TypeId) (hu : P.underlying dT = some (.slice elem)) (hs : (P.info? elem).map (·.size) = some 1)
    {g off dLen dCap : Nat} (hd : ρ d = .slice (some ⟨g, off, none⟩) dLen dCap) {u : Value} {ys : List Value} (hx : ρ s = u) (hr : Rd w u ys) (hne : 0 < ys.length) (hle : ys.length ≤ dLen)
    {cur : List Value} {t : TypeId} (hg : Blk w g cur t) (hfit : off + ys.length ≤ cur.length) (h1 : ∀ y ∈ ys, y.oneCell' = true)
    (h : ∀ w', Blk w' g (cur.take off ++ ys ++ cur.drop (off + ys.length)) t → Only g w w' → K (a.put o.dst (goInt ys.length)) w') : o.upon P a K Q ((execOp ρ o).run P w) := by
  obtain ⟨A, c, rfl, hc1, hc2, h0, h3⟩ := hr
  rcases h3 with rfl | ⟨b, o', rfl, h3⟩
  · simp at hne
  · have hrun := run_copy_row (P := P) w dT sT o.type elem g off dLen dCap ⟨b, o', none⟩ ys.length c cur.toArray t ys hu hs hg (Nat.min_eq_left hle).symm (by
      intro j y hj
      obtain ⟨hlt, rfl⟩ := List.getElem?_eq_some_iff.1 hj
      rw [← h3 j hlt]
      congr 1
      unfold Addr.add; split <;> simp_all) (by simpa using hfit) h1
    simp [execOp, ho, resolve, invoke, builtin, hd, hx, hrun, Result.andThen]
    exact h _ (show _ = _ by simpa using setRow_heap w g cur.toArray (cur.take off ++ ys ++ cur.drop (off + ys.length)).toArray t (0, 0) hg) (Only.row w g _)

theorem slice_out (w : World) (o k : Nat) (hk : k < 16) : (Instr.sliceAt 27 (.pointer (some ⟨o, 0, none⟩)) (some (.int .i64 (4 * (k : Int)))) none none).run Tryd.prog w = .ok (.slice (some ⟨o, 4 * k, none⟩) (64 - 4 * k) (64 - 4 * k)) w := by
  have ha : Tryd.prog.arrayLen 27 = 64 := by kernel_rfl
  have he : Tryd.prog.elem 27 = 5 := by kernel_rfl
  obtain ⟨q, hq1, hq2⟩ := Option.map_eq_some_iff.1 (show (Tryd.prog.info? 5).map (·.size) = some 1 by kernel_rfl)
  have e1 : (4 * (k : Int)).toNat = 4 * k := by omega
  have e2 : ¬ 64 = 4 * k := by omega
  rw [run_sliceAt_array_l (P := Tryd.prog) w 27 ⟨o, 0, none⟩ (by rw [ha, he]; exact Tryd.underlying27) .i64 (4 * (k : Int)) (by omega) (by rw [ha]; omega)]
  rw [he, ha]
  simp [sizeOf, typeInfo, hq1, hq2, slicedAt, e1, e2, Addr.add]
  intro h0
  omega

theorem splice_zero (a l : List Int) (n m q : Nat) (ha : a.length = n) (hl : l.length = q) :
    (bs (a ++ List.replicate m 0)).take n ++ bs l ++ (bs (a ++ List.replicate m 0)).drop (n + q) = bs ((a ++ l) ++ List.replicate (m - q) 0) := by
  subst ha hl
  simp [bs, ← List.map_drop, List.drop_append, List.drop_replicate]

structure CInv (B g : Nat) (w wr : World) (key nonce s0 s : List Int) : Prop where
  h : B + 2 < g
  k : Blk wr B (bs key) 22
  n : Blk wr (B + 1) (bs nonce) 24
  o : Blk wr (B + 2) (bs (List.replicate 64 0)) 27
  s0 : Blk wr g (us s0) 62
  s : Blk wr (g + 1) (us s) 62
  t : Tab wr
  p : 0 < B
  b : Below B w wr

theorem CInv.put {B g : Nat} {w wr : World} {key nonce s0 s : List Int} (h : CInv B g w wr key nonce s0 s) (i : Nat) (x : Int) : CInv B g w (wr.setCell ⟨g + 1, i, none⟩ (.int .u32 x)) key nonce s0 (s.set i x) :=
  have hh := h.h
  ⟨h.h, h.k.other (by simp; omega) _, h.n.other (by simp; omega) _, h.o.other (by simp; omega) _, h.s0.other (by simp) _, by rw [← us_set]; exact h.s.set i _, h.t.other (by simp) _, h.p, bw_set h.b _ _ (by omega) _⟩
theorem CInv.only {B g r : Nat} {w wr w2 : World} {key nonce s0 s : List Int} (h : CInv B g w wr key nonce s0 s) (ho : Only r wr w2) (hr : g + 1 < r) : CInv B g w w2 key nonce s0 s :=
  have hh := h.h
  ⟨h.h, h.k.only ho (by omega), h.n.only ho (by omega), h.o.only ho (by omega), h.s0.only ho (by omega), h.s.only ho (by omega), h.t.only ho (by omega), h.p, ho.below h.b (by omega)⟩
theorem CInv.al {B g : Nat} {w wr : World} {key nonce s0 s : List Int} (h : CInv B g w wr key nonce s0 s) (o : Obj) : CInv B g w (wr.alloc o) key nonce s0 s :=
  ⟨h.h, h.k.al _, h.n.al _, h.o.al _, h.s0.al _, h.s.al _, h.t.al _, h.p, bw_al h.b (by have := h.h; have := h.s.lt; omega) _⟩
theorem CInv.d1 {B g : Nat} {w wr : World} {key nonce s0 s : List Int} (h : CInv B g w wr key nonce s0 s) : CInv B g w wr.drew key nonce s0 s :=
  ⟨h.h, h.k, h.n, h.o, h.s0, h.s, h.t, h.p, bw_d1 h.b⟩
theorem CInv.stay {B g : Nat} {w wr w2 : World} {key nonce s0 s : List Int} (h : CInv B g w wr key nonce s0 s) (hb : Below wr.heap.size wr w2) : CInv B g w w2 key nonce s0 s :=
  ⟨h.h, h.k.stay hb, h.n.stay hb, h.o.stay hb, h.s0.stay hb, h.s.stay hb, h.t.stay hb, h.p, bw_then h.b hb (by have := h.h; have := h.s.lt; omega)⟩

set_option maxRecDepth 8000 in
set_option maxHeartbeats 1000000 in
theorem blockc_any (key nonce : List Int) (c : Int) (w : World) (hk : key.length = 32) (hn : nonce.length = 12) (hkb : IsB key) (hnb : IsB nonce) (ht : Tab w) :
    Calls Tryd.prog 15 #[.agg (bs key).toArray, .int .u32 c, .agg (bs nonce).toArray] w fun e w' => e = .returned (.agg (bs (block key c nonce)).toArray) ∧ Below w.heap.size w w' := by
  have HC := Lib.hid (fun w => first_any key nonce c w hk hn hkb hnb)
  have HF := Lib.hid (fun _ : Unit => first_begin key c nonce hkb hnb)
  have HK := Lib.hid hk
  have HN := Lib.hid hn
  clear hk hn hkb hnb
  obtain ⟨B, hB⟩ : ∃ B, w.heap.size = B := ⟨_, rfl⟩
  go_enter Tryd.func15, Tryd.ntmps15
  go_upto_region 1 with fail
  have hp : 0 < B := by rw [← hB]; exact ht.lt
  have b0 : Blk (((w.alloc (.cells (bs key).toArray 22)).alloc (.cells (bs nonce).toArray 24)).alloc (.cells (bs (List.replicate 64 0)).toArray 27)) B (bs key) 22 := ((Blk.mk_ _ hB.symm rfl).al _).al _
  have b1 : Blk (((w.alloc (.cells (bs key).toArray 22)).alloc (.cells (bs nonce).toArray 24)).alloc (.cells (bs (List.replicate 64 0)).toArray 27)) (B + 1) (bs nonce) 24 := (Blk.mk_ _ (by simp [hB]) rfl).al _
  have b2 : Blk (((w.alloc (.cells (bs key).toArray 22)).alloc (.cells (bs nonce).toArray 24)).alloc (.cells (bs (List.replicate 64 0)).toArray 27)) (B + 2) (bs (List.replicate 64 0)) 27 := Blk.mk_ _ (by simp [hB]) rfl
  have bt : Tab (((w.alloc (.cells (bs key).toArray 22)).alloc (.cells (bs nonce).toArray 24)).alloc (.cells (bs (List.replicate 64 0)).toArray 27)) := ((ht.al _).al _).al _
  have bb : Below B w (((w.alloc (.cells (bs key).toArray 22)).alloc (.cells (bs nonce).toArray 24)).alloc (.cells (bs (List.replicate 64 0)).toArray 27)) := bw_al (bw_al (bw_al (Below.refl _ _) (by omega) _) (by simp; omega) _) (by simp; omega) _
  change Code.wp _ _ _ _ (((w.alloc (.cells (bs key).toArray 22)).alloc (.cells (bs nonce).toArray 24)).alloc (.cells (bs (List.replicate 64 0)).toArray 27))
  generalize (((w.alloc (.cells (bs key).toArray 22)).alloc (.cells (bs nonce).toArray 24)).alloc (.cells (bs (List.replicate 64 0)).toArray 27)) = w1 at *
  go_upto_region 2 with (first
      | (refine wp_load_blk rfl 22 (.tmp 3) rfl rfl b0 Tryd.underlying22 rfl (n := 32) (by kernel_rfl) (by rw [bs_len, HK.out]) ?_)
      | (refine wp_load_blk rfl 24 (.tmp 5) rfl rfl b1 Tryd.underlying24 rfl (n := 12) (by kernel_rfl) (by rw [bs_len, HN.out]) ?_)
      | (go_at_call 34; refine (HC.out _).mono ?_; rintro e w' ⟨rfl, hb⟩)
      | (refine wp_store_blk rfl 62 (.tmp 7) (.tmp 17) rfl rfl rfl (cs := us z16) (Blk.mk_ _ rfl rfl) (us_one _) (by rw [us_len, firstN_len]; rfl) (n := 16) (by kernel_rfl) (by rw [us_len, firstN_len]) ?_; intro w2 hb2 ho2))
  have hs1 := hb.size
  have hg1 := b2.lt
  have c0 : Blk w2 B (bs key) 22 := ((b0.stay hb).al _).only ho2 (by omega)
  have c1 : Blk w2 (B + 1) (bs nonce) 24 := ((b1.stay hb).al _).only ho2 (by omega)
  have c2 : Blk w2 (B + 2) (bs (List.replicate 64 0)) 27 := ((b2.stay hb).al _).only ho2 (by omega)
  have ct : Tab w2 := ((bt.stay hb).al _).only ho2 (by omega)
  have cb : Below B w w2 := ho2.below (bw_al (bw_then bb hb (by omega)) (by omega) _) (by omega)
  have hz : w2.heap.size = w'.heap.size + 1 := by rw [ho2.size]; simp
  have hgg : B + 2 < w'.heap.size := by omega
  obtain ⟨s0, hs0⟩ : ∃ s0, firstN key c nonce 3 = s0 := ⟨_, rfl⟩
  have hl0 : s0.length = 16 := by rw [← hs0, firstN_len]
  have HL := Lib.hid hl0
  have HS := Lib.hid (fun _ : Unit => hs0)
  rw [hs0] at hb2 ⊢
  clear hl0 hs0 b0 b1 b2 bt bb ho2 hb hs1 hg1 HC ht
  generalize w'.heap.size = g at *
  go_wp2_with (first
      | (refine wp_load_blk rfl 62 (.tmp 7) rfl rfl hb2 Tryd.underlying62 rfl (n := 16) (by kernel_rfl) (by rw [us_len, HL.out]) ?_)
      | (refine wp_store_blk rfl 62 (.tmp 8) (.tmp 18) rfl rfl rfl (cs := us z16) (Blk.mk_ _ hz.symm rfl) (us_one _) (by rw [us_len, HL.out]; rfl) (n := 16) (by kernel_rfl) (by rw [us_len, HL.out]) ?_; intro w3 hb3 ho3))
  have inv0 : CInv B g w w3 key nonce s0 (rounds s0 0) := ⟨hgg, (c0.al _).only ho3 (by omega), (c1.al _).only ho3 (by omega), (c2.al _).only ho3 (by omega), (hb2.al _).only ho3 (by omega), hb3, (ct.al _).only ho3 (by omega), hp, ho3.below (bw_al cb (by omega) _) (by omega)⟩
  clear c0 c1 c2 ct cb hb2 hb3 ho3 hz
  go_loopw [19] (fun i wr => ∃ j : Nat, j ≤ 10 ∧ i = .int .i64 j ∧ CInv B g w wr key nonce s0 (rounds s0 j)) (fun i _ => 10 - (intOf i).toNat)
  case atStart => exact ⟨0, by omega, rfl, inv0⟩
  case round =>
    obtain ⟨j, hj, rfl, inv⟩ := hrel
    clear inv0
    by_cases hlt : j < 10
    · go_wp2_with (first
        | (refine wp_load_tab rfl 65 (.global 0) rfl rfl inv.t Tryd.underlying65 rfl (by kernel_rfl) ?_))
      try simp only [show decide ((j : Int) < 10) = true from decide_eq_true (by omega)]
      go_loopw [22] (fun i wr => ∃ k : Nat, k ≤ 8 ∧ i = .int .i64 k ∧ CInv B g w wr key nonce s0 (crow (rounds s0 j) k)) (fun i _ => 8 - (intOf i).toNat)
      case atStart => exact ⟨0, by omega, rfl, inv⟩
      case round =>
        obtain ⟨k, hk, rfl, inv⟩ := hrel
        by_cases hlk : k < 8
        · have hl := crow_len (rounds s0 j) k
          rw [rounds_len, HL.out] at hl
          obtain ⟨s1, hs1⟩ : ∃ s1, crow (rounds s0 j) k = s1 := ⟨_, rfl⟩
          rw [hs1] at inv hl
          have HL1 := Lib.hid hl
          have HS1 := Lib.hid (fun _ : Unit => hs1)
          clear hl hs1
          have hix := index_rows wr k hlk
          go_upto_region 8 with (refine wp_store_blk rfl 64 (.tmp 10) (.tmp 24) rfl rfl rfl (cs := ns [0, 0, 0, 0]) (Blk.mk_ _ rfl rfl) (ns_one _) rfl (n := 4) (by kernel_rfl) rfl ?_; intro w2 hb2 ho2)
          have inv2 : CInv B g w w2 key nonce s0 s1 := (inv.al _).only ho2 inv.s.lt
          have hr := inv.s.lt
          clear ho2 hix inv
          generalize wr.heap.size = r at *
          have q0 := rowAt_lt k 0
          have q1 := rowAt_lt k 1
          have q2 := rowAt_lt k 2
          have q3 := rowAt_lt k 3
          have HX := Lib.hid (fun _ : Unit => show crow (rounds s0 j) (k + 1) = qr (crow (rounds s0 j) k) (rowAt k 0) (rowAt k 1) (rowAt k 2) (rowAt k 3) from rfl)
          generalize rowAt k 0 = r0 at *
          generalize rowAt k 1 = r1 at *
          generalize rowAt k 2 = r2 at *
          generalize rowAt k 3 = r3 at *
          obtain ⟨Q, hQ⟩ : ∃ Q, Q = quarter (s1.getD r0 0) (s1.getD r1 0) (s1.getD r2 0) (s1.getD r3 0) := ⟨_, rfl⟩
          have HQ := Lib.hid (fun _ : Unit => hQ)
          clear hQ
          refine region_draws [(26, ?v26), (27, ?v27), (28, ?v28), (29, ?v29), (30, ?v30), (31, ?v31), (32, ?v32), (33, ?v33), (34, ?v34), (35, ?v35), (36, ?v36), (37, ?v37), (38, ?v38), (39, ?v39), (40, ?v40), (41, ?v41), (42, ?v42), (43, ?v43), (44, ?v44), (45, ?v45), (46, ?v46), (47, ?v47), (48, ?v48), (49, ?v49),
              (25, .tuple #[.int .u32 Q.1, .int .u32 Q.2.1, .int .u32 Q.2.2.1, .int .u32 Q.2.2.2]), (51, .int .u32 Q.1), (52, .int .u32 Q.2.1), (53, .int .u32 Q.2.2.1), (54, .int .u32 Q.2.2.2), (55, ?v55), (56, ?v56), (57, ?v57), (58, ?v58)] [50]
            (fun L T wr => CInv B g w wr key nonce s0 (if L 37 then (((s1.set r0 Q.1).set r1 Q.2.1).set r2 Q.2.2.1).set r3 Q.2.2.2 else if L 35 then ((s1.set r0 Q.1).set r1 Q.2.1).set r2 Q.2.2.1 else if L 33 then (s1.set r0 Q.1).set r1 Q.2.1 else if L 31 then s1.set r0 Q.1 else s1) ∧
              Blk wr r (ns [r0, r1, r2, r3]) 64 ∧ (L 24 = true → T 50 = .tuple #[.int .u32 Q.1, .int .u32 Q.2.1, .int .u32 Q.2.2.1, .int .u32 Q.2.2.2]))
            (fun _ => undef) (by kernel_rfl) (by kernel_rfl) 78 rfl (by kernel_rfl) ?g0 ?hops ?hend
          case g0 => exact ⟨inv2.d1, hb2.d1, fun h => by simp at h⟩
          case hops =>
            simp only [AllFrom]
            refine ⟨?_, ?_, ?_, ?_, ?_, ?_, ?_, ?_, ?_, ?_, ?_, ?_, ?_, ?_, ?_, ?_, ?_, ?_, ?_, ?_, ?_, ?_, ?_, ?_, ?_, ?_, ?_, ?_, ?_, ?_, ?_, ?_, ?_, ?_, ?_, ?_, ?_, ?_, trivial⟩
            · (intro L T w hpre hpost hG; skip; first | exact .inl ⟨rfl, rfl⟩ | (refine .inl ⟨rfl, ?_⟩; simp only [execOp]; go_simp; (try go_ints); (try go_simp); (try rw [if_pos (by omega)]); (first | done | rfl)))
            · (intro L T w hpre hpost hG; (have c := hG.2.1.at_ 0 (ns_get [r0, r1, r2, r3] 0 (by simp))); first | exact .inl ⟨rfl, rfl⟩ | (refine .inl ⟨rfl, ?_⟩; simp only [execOp]; go_simp; (try go_ints); (try go_simp); (try rw [if_pos (by omega)]); (first | done | rfl)))
            · (intro L T w hpre hpost hG; skip; first | exact .inl ⟨rfl, rfl⟩ | (refine .inl ⟨rfl, ?_⟩; simp only [execOp]; go_simp; (try go_ints); (try go_simp); (try rw [if_pos (by omega)]); (first | done | rfl)))
            · (intro L T w hpre hpost hG; (have c := hG.2.1.at_ 1 (ns_get [r0, r1, r2, r3] 1 (by simp))); first | exact .inl ⟨rfl, rfl⟩ | (refine .inl ⟨rfl, ?_⟩; simp only [execOp]; go_simp; (try go_ints); (try go_simp); (try rw [if_pos (by omega)]); (first | done | rfl)))
            · (intro L T w hpre hpost hG; skip; first | exact .inl ⟨rfl, rfl⟩ | (refine .inl ⟨rfl, ?_⟩; simp only [execOp]; go_simp; (try go_ints); (try go_simp); (try rw [if_pos (by omega)]); (first | done | rfl)))
            · (intro L T w hpre hpost hG; (have c := hG.2.1.at_ 2 (ns_get [r0, r1, r2, r3] 2 (by simp))); first | exact .inl ⟨rfl, rfl⟩ | (refine .inl ⟨rfl, ?_⟩; simp only [execOp]; go_simp; (try go_ints); (try go_simp); (try rw [if_pos (by omega)]); (first | done | rfl)))
            · (intro L T w hpre hpost hG; skip; first | exact .inl ⟨rfl, rfl⟩ | (refine .inl ⟨rfl, ?_⟩; simp only [execOp]; go_simp; (try go_ints); (try go_simp); (try rw [if_pos (by omega)]); (first | done | rfl)))
            · (intro L T w hpre hpost hG; (have c := hG.2.1.at_ 3 (ns_get [r0, r1, r2, r3] 3 (by simp))); first | exact .inl ⟨rfl, rfl⟩ | (refine .inl ⟨rfl, ?_⟩; simp only [execOp]; go_simp; (try go_ints); (try go_simp); (try rw [if_pos (by omega)]); (first | done | rfl)))
            · (intro L T w hpre hpost hG; skip; first | exact .inl ⟨rfl, rfl⟩ | (refine .inl ⟨rfl, ?_⟩; simp only [execOp]; go_simp; (try go_ints); (try go_simp); (try rw [if_pos (by omega)]); (first | done | rfl)))
            · (intro L T w hpre hpost hG; (have c := hG.2.1.at_ 0 (ns_get [r0, r1, r2, r3] 0 (by simp))); first | exact .inl ⟨rfl, rfl⟩ | (refine .inl ⟨rfl, ?_⟩; simp only [execOp]; go_simp; (try go_ints); (try go_simp); (try rw [if_pos (by omega)]); (first | done | rfl)))
            · (intro L T w hpre hpost hG; skip; first | exact .inl ⟨rfl, rfl⟩ | (refine .inl ⟨rfl, ?_⟩; simp only [execOp]; go_simp; (try go_ints); (try go_simp); (try rw [if_pos (by omega)]); (first | done | rfl)))
            · (intro L T w hpre hpost hG; (simp only [hpost 31 _ rfl rfl, hpost 33 _ rfl rfl, hpost 35 _ rfl rfl, hpost 37 _ rfl rfl, Bool.false_eq_true, if_false] at hG; have c := hG.1.s.at_ r0 (us_get _ _ (by rw [HL1.out]; omega))); first | exact .inl ⟨rfl, rfl⟩ | (refine .inl ⟨rfl, ?_⟩; simp only [execOp]; go_simp; (try go_ints); (try go_simp); (try rw [if_pos (by omega)]); (first | done | rfl)))
            · (intro L T w hpre hpost hG; skip; first | exact .inl ⟨rfl, rfl⟩ | (refine .inl ⟨rfl, ?_⟩; simp only [execOp]; go_simp; (try go_ints); (try go_simp); (try rw [if_pos (by omega)]); (first | done | rfl)))
            · (intro L T w hpre hpost hG; (have c := hG.2.1.at_ 1 (ns_get [r0, r1, r2, r3] 1 (by simp))); first | exact .inl ⟨rfl, rfl⟩ | (refine .inl ⟨rfl, ?_⟩; simp only [execOp]; go_simp; (try go_ints); (try go_simp); (try rw [if_pos (by omega)]); (first | done | rfl)))
            · (intro L T w hpre hpost hG; skip; first | exact .inl ⟨rfl, rfl⟩ | (refine .inl ⟨rfl, ?_⟩; simp only [execOp]; go_simp; (try go_ints); (try go_simp); (try rw [if_pos (by omega)]); (first | done | rfl)))
            · (intro L T w hpre hpost hG; (simp only [hpost 31 _ rfl rfl, hpost 33 _ rfl rfl, hpost 35 _ rfl rfl, hpost 37 _ rfl rfl, Bool.false_eq_true, if_false] at hG; have c := hG.1.s.at_ r1 (us_get _ _ (by rw [HL1.out]; omega))); first | exact .inl ⟨rfl, rfl⟩ | (refine .inl ⟨rfl, ?_⟩; simp only [execOp]; go_simp; (try go_ints); (try go_simp); (try rw [if_pos (by omega)]); (first | done | rfl)))
            · (intro L T w hpre hpost hG; skip; first | exact .inl ⟨rfl, rfl⟩ | (refine .inl ⟨rfl, ?_⟩; simp only [execOp]; go_simp; (try go_ints); (try go_simp); (try rw [if_pos (by omega)]); (first | done | rfl)))
            · (intro L T w hpre hpost hG; (have c := hG.2.1.at_ 2 (ns_get [r0, r1, r2, r3] 2 (by simp))); first | exact .inl ⟨rfl, rfl⟩ | (refine .inl ⟨rfl, ?_⟩; simp only [execOp]; go_simp; (try go_ints); (try go_simp); (try rw [if_pos (by omega)]); (first | done | rfl)))
            · (intro L T w hpre hpost hG; skip; first | exact .inl ⟨rfl, rfl⟩ | (refine .inl ⟨rfl, ?_⟩; simp only [execOp]; go_simp; (try go_ints); (try go_simp); (try rw [if_pos (by omega)]); (first | done | rfl)))
            · (intro L T w hpre hpost hG; (simp only [hpost 31 _ rfl rfl, hpost 33 _ rfl rfl, hpost 35 _ rfl rfl, hpost 37 _ rfl rfl, Bool.false_eq_true, if_false] at hG; have c := hG.1.s.at_ r2 (us_get _ _ (by rw [HL1.out]; omega))); first | exact .inl ⟨rfl, rfl⟩ | (refine .inl ⟨rfl, ?_⟩; simp only [execOp]; go_simp; (try go_ints); (try go_simp); (try rw [if_pos (by omega)]); (first | done | rfl)))
            · (intro L T w hpre hpost hG; skip; first | exact .inl ⟨rfl, rfl⟩ | (refine .inl ⟨rfl, ?_⟩; simp only [execOp]; go_simp; (try go_ints); (try go_simp); (try rw [if_pos (by omega)]); (first | done | rfl)))
            · (intro L T w hpre hpost hG; (have c := hG.2.1.at_ 3 (ns_get [r0, r1, r2, r3] 3 (by simp))); first | exact .inl ⟨rfl, rfl⟩ | (refine .inl ⟨rfl, ?_⟩; simp only [execOp]; go_simp; (try go_ints); (try go_simp); (try rw [if_pos (by omega)]); (first | done | rfl)))
            · (intro L T w hpre hpost hG; skip; first | exact .inl ⟨rfl, rfl⟩ | (refine .inl ⟨rfl, ?_⟩; simp only [execOp]; go_simp; (try go_ints); (try go_simp); (try rw [if_pos (by omega)]); (first | done | rfl)))
            · (intro L T w hpre hpost hG; (simp only [hpost 31 _ rfl rfl, hpost 33 _ rfl rfl, hpost 35 _ rfl rfl, hpost 37 _ rfl rfl, Bool.false_eq_true, if_false] at hG; have c := hG.1.s.at_ r3 (us_get _ _ (by rw [HL1.out]; omega))); first | exact .inl ⟨rfl, rfl⟩ | (refine .inl ⟨rfl, ?_⟩; simp only [execOp]; go_simp; (try go_ints); (try go_simp); (try rw [if_pos (by omega)]); (first | done | rfl)))
            · intro L T w hL hpre hpost hG
              obtain ⟨h1, h2, h3⟩ := hG
              refine .inl ⟨rfl, fun a K hK => ?_⟩
              simp only [execOp]
              go_simp
              refine (quarter_any _ _ _ _ _).mono ?_
              rintro e w' ⟨rfl, rfl⟩
              refine hK _ _ ⟨by simpa using h1, h2, fun _ => by rw [HQ.out ()]; simp⟩
            · (intro L T w hpre hpost hG; (have c := hG.2.2 (hpre 24 rfl rfl)); first | exact .inl ⟨rfl, rfl⟩ | (refine .inl ⟨rfl, ?_⟩; simp only [execOp]; go_simp; (try go_ints); (try go_simp); (try rw [if_pos (by omega)]); (first | done | rfl)))
            · (intro L T w hpre hpost hG; skip; first | exact .inl ⟨rfl, rfl⟩ | (refine .inl ⟨rfl, ?_⟩; simp only [execOp]; go_simp; (try go_ints); (try go_simp); (try rw [if_pos (by omega)]); (first | done | rfl)))
            · (intro L T w hpre hpost hG; skip; first | exact .inl ⟨rfl, rfl⟩ | (refine .inl ⟨rfl, ?_⟩; simp only [execOp]; go_simp; (try go_ints); (try go_simp); (try rw [if_pos (by omega)]); (first | done | rfl)))
            · (intro L T w hpre hpost hG; skip; first | exact .inl ⟨rfl, rfl⟩ | (refine .inl ⟨rfl, ?_⟩; simp only [execOp]; go_simp; (try go_ints); (try go_simp); (try rw [if_pos (by omega)]); (first | done | rfl)))
            · (intro L T w hpre hpost hG; skip; first | exact .inl ⟨rfl, rfl⟩ | (refine .inl ⟨rfl, ?_⟩; simp only [execOp]; go_simp; (try go_ints); (try go_simp); (try rw [if_pos (by omega)]); (first | done | rfl)))
            · (intro L T w hpre hpost hG; skip; first | exact .inl ⟨rfl, rfl⟩ | (refine .inl ⟨rfl, ?_⟩; simp only [execOp]; go_simp; (try go_ints); (try go_simp); (try rw [if_pos (by omega)]); (first | done | rfl)))
            · intro L T w hL hpre hpost hG
              obtain ⟨h1, h2, h3⟩ := hG
              have l31 : L 31 = false := hL
              have l33 : L 33 = false := hpost 33 _ rfl rfl
              have l35 : L 35 = false := hpost 35 _ rfl rfl
              have l37 : L 37 = false := hpost 37 _ rfl rfl
              simp only [l31, l33, l35, l37, Bool.false_eq_true, if_false] at h1
              have c := h1.s.at_ r0 (us_get _ _ (by rw [HL1.out]; omega))
              have c1 := h1.s.free r0
              refine .inl ⟨rfl, fun a K hK => ?_⟩
              simp only [execOp]
              go_simp
              refine hK undef _ ⟨?_, h2.other (by simp; omega) _, by simpa using h3⟩
              simp only [l31, l33, l35, l37]
              exact h1.put r0 Q.1
            · (intro L T w hpre hpost hG; skip; first | exact .inl ⟨rfl, rfl⟩ | (refine .inl ⟨rfl, ?_⟩; simp only [execOp]; go_simp; (try go_ints); (try go_simp); (try rw [if_pos (by omega)]); (first | done | rfl)))
            · intro L T w hL hpre hpost hG
              obtain ⟨h1, h2, h3⟩ := hG
              have l31 : L 31 = true := hpre 31 rfl rfl
              have l33 : L 33 = false := hL
              have l35 : L 35 = false := hpost 35 _ rfl rfl
              have l37 : L 37 = false := hpost 37 _ rfl rfl
              simp only [l31, l33, l35, l37, Bool.false_eq_true, if_false, if_true] at h1
              have c := h1.s.at_ r1 (us_get _ _ (by simp only [List.length_set]; rw [HL1.out]; omega))
              have c1 := h1.s.free r1
              refine .inl ⟨rfl, fun a K hK => ?_⟩
              simp only [execOp]
              go_simp
              refine hK undef _ ⟨?_, h2.other (by simp; omega) _, by simpa using h3⟩
              simp only [l31, l33, l35, l37]
              exact h1.put r1 Q.2.1
            · (intro L T w hpre hpost hG; skip; first | exact .inl ⟨rfl, rfl⟩ | (refine .inl ⟨rfl, ?_⟩; simp only [execOp]; go_simp; (try go_ints); (try go_simp); (try rw [if_pos (by omega)]); (first | done | rfl)))
            · intro L T w hL hpre hpost hG
              obtain ⟨h1, h2, h3⟩ := hG
              have l31 : L 31 = true := hpre 31 rfl rfl
              have l33 : L 33 = true := hpre 33 rfl rfl
              have l35 : L 35 = false := hL
              have l37 : L 37 = false := hpost 37 _ rfl rfl
              simp only [l33, l35, l37, Bool.false_eq_true, if_false, if_true] at h1
              have c := h1.s.at_ r2 (us_get _ _ (by simp only [List.length_set]; rw [HL1.out]; omega))
              have c1 := h1.s.free r2
              refine .inl ⟨rfl, fun a K hK => ?_⟩
              simp only [execOp]
              go_simp
              refine hK undef _ ⟨?_, h2.other (by simp; omega) _, by simpa using h3⟩
              simp only [l31, l33, l35, l37]
              exact h1.put r2 Q.2.2.1
            · (intro L T w hpre hpost hG; skip; first | exact .inl ⟨rfl, rfl⟩ | (refine .inl ⟨rfl, ?_⟩; simp only [execOp]; go_simp; (try go_ints); (try go_simp); (try rw [if_pos (by omega)]); (first | done | rfl)))
            · intro L T w hL hpre hpost hG
              obtain ⟨h1, h2, h3⟩ := hG
              have l31 : L 31 = true := hpre 31 rfl rfl
              have l33 : L 33 = true := hpre 33 rfl rfl
              have l35 : L 35 = true := hpre 35 rfl rfl
              have l37 : L 37 = false := hL
              simp only [l35, l37, Bool.false_eq_true, if_false, if_true] at h1
              have c := h1.s.at_ r3 (us_get _ _ (by simp only [List.length_set]; rw [HL1.out]; omega))
              have c1 := h1.s.free r3
              refine .inl ⟨rfl, fun a K hK => ?_⟩
              simp only [execOp]
              go_simp
              refine hK undef _ ⟨?_, h2.other (by simp; omega) _, by simpa using h3⟩
              simp only [l31, l33, l35, l37]
              exact h1.put r3 Q.2.2.2
          case hend =>
            intro L T w hall hG
            obtain ⟨h1, h2, h3⟩ := hG
            rw [if_pos (hall 37 (by decide) rfl)] at h1
            simp only [fillT, fillP, List.foldl_cons, List.foldl_nil, Act.put]
            go_wp2_with fail
            refine ⟨⟨k + 1, by omega, by go_num, ?_⟩, by simp [intOf]; omega⟩
            rw [HX.out (), HS1.out (), qr, ← HQ.out ()]
            exact h1
        · obtain rfl : k = 8 := by omega
          go_wp2_with fail
          go_roundw
          case rel => exact ⟨j + 1, by omega, by go_num, inv⟩
          case measure => simp [intOf]; omega
    · obtain rfl : j = 10 := by omega
      simp only [Int.cast_ofNat_Int]
      have hl := rounds_len s0 10
      rw [HL.out] at hl
      obtain ⟨sr, hsr⟩ : ∃ sr, rounds s0 10 = sr := ⟨_, rfl⟩
      rw [hsr] at inv hl
      have HR := Lib.hid hl
      have HSR := Lib.hid (fun _ : Unit => hsr)
      clear hl hsr
      go_upto_region 12 with fail
      have inv1 := inv.al (.cells (bs (List.replicate 64 0)).toArray 27)
      have hbo : Blk (wr.alloc (.cells (bs (List.replicate 64 0)).toArray 27)) wr.heap.size (bs (List.replicate 64 0)) 27 := Blk.mk_ _ rfl rfl
      have ho := inv.s.lt
      change Code.wp _ _ _ _ (wr.alloc (.cells (bs (List.replicate 64 0)).toArray 27))
      generalize wr.alloc (.cells (bs (List.replicate 64 0)).toArray 27) = w2 at *
      clear inv
      generalize wr.heap.size = o at *
      go_wp2_with (refine wp_load_blk rfl 62 (.tmp 8) rfl rfl inv1.s Tryd.underlying62 rfl (n := 16) (by kernel_rfl) (by rw [us_len, HR.out]) ?_)
      go_loopw [62] (fun i wr => ∃ k : Nat, k ≤ 16 ∧ i = .int .i64 k ∧ CInv B g w wr key nonce s0 sr ∧ Blk wr o (bs (outK sr s0 k ++ List.replicate (64 - 4 * k) 0)) 27) (fun i _ => 16 - (intOf i).toNat)
      case atStart => exact ⟨0, by omega, rfl, inv1, hbo⟩
      case round =>
        obtain ⟨k, hk, rfl, inv, hbo⟩ := hrel
        by_cases hlk : k < 16
        · have hix := run_index_us (P := Tryd.prog) (w := wr) (k := .i64) Tryd.underlying62 Tryd.underlying23 (by kernel_rfl) (us sr).toArray k hlk (v := .int .u32 (sr.getD k 0)) (by simpa using us_get sr k (by rw [HR.out]; omega))
          go_upto_region 15 with fail
          clear hix
          refine region_draws [(66, ?v66), (67, ?v67), (68, .slice (some ⟨o, 4 * k, none⟩) (64 - 4 * k) (64 - 4 * k)), (69, ?v69), (70, ?v70), (71, ?v71), (72, ?v72), (73, .int .u32 ((sr.getD k 0 + s0.getD k 0) % 4294967296))] [74, 75]
            (fun L T wr => CInv B g w wr key nonce s0 sr ∧ Blk wr o (bs (if L 9 then outK sr s0 (k + 1) ++ List.replicate (64 - 4 * (k + 1)) 0 else outK sr s0 k ++ List.replicate (64 - 4 * k) 0)) 27 ∧
              (L 8 = true → L 9 = false → Rd wr (T 74) (bs (lowN ((sr.getD k 0 + s0.getD k 0) % 4294967296) 4))))
            (fun _ => undef) (by kernel_rfl) (by kernel_rfl) 78 rfl (by kernel_rfl) ?g0 ?hops ?hend
          case g0 => exact ⟨inv.d1, hbo.d1, fun h => by simp at h⟩
          case hops =>
            simp only [AllFrom]
            refine ⟨?_, ?_, ?_, ?_, ?_, ?_, ?_, ?_, ?_, ?_, trivial⟩
            · (intro L T w hpre hpost hG; skip; first | exact .inl ⟨rfl, rfl⟩ | (refine .inl ⟨rfl, ?_⟩; simp only [execOp]; go_simp; (try go_ints); (try go_simp); (try rw [if_pos (by omega)]); (first | done | rfl)))
            · (intro L T w hpre hpost hG; skip; first | exact .inl ⟨rfl, rfl⟩ | (refine .inl ⟨rfl, ?_⟩; simp only [execOp]; go_simp; (try go_ints); (try go_simp); (try rw [if_pos (by omega)]); (first | done | rfl)))
            · (intro L T w hpre hpost hG; (have c := slice_out w o k hlk); first | exact .inl ⟨rfl, rfl⟩ | (refine .inl ⟨rfl, ?_⟩; simp only [execOp]; go_simp; (try go_ints); (try go_simp); (try rw [if_pos (by omega)]); (first | done | rfl)))
            · (intro L T w hpre hpost hG; skip; first | exact .inl ⟨rfl, rfl⟩ | (refine .inl ⟨rfl, ?_⟩; simp only [execOp]; go_simp; (try go_ints); (try go_simp); (try rw [if_pos (by omega)]); (first | done | rfl)))
            · (intro L T w hpre hpost hG; skip; first | exact .inl ⟨rfl, rfl⟩ | (refine .inl ⟨rfl, ?_⟩; simp only [execOp]; go_simp; (try go_ints); (try go_simp); (try rw [if_pos (by omega)]); (first | done | rfl)))
            · (intro L T w hpre hpost hG; skip; first | exact .inl ⟨rfl, rfl⟩ | (refine .inl ⟨rfl, ?_⟩; simp only [execOp]; go_simp; (try go_ints); (try go_simp); (try rw [if_pos (by omega)]); (first | done | rfl)))
            · (intro L T w hpre hpost hG; (have c := hG.1.s0.at_ k (us_get _ _ (by rw [HL.out]; omega))); first | exact .inl ⟨rfl, rfl⟩ | (refine .inl ⟨rfl, ?_⟩; simp only [execOp]; go_simp; (try go_ints); (try go_simp); (try rw [if_pos (by omega)]); (first | done | rfl)))
            · (intro L T w hpre hpost hG; skip; first | exact .inl ⟨rfl, rfl⟩ | (refine .inl ⟨rfl, ?_⟩; simp only [execOp]; go_simp; (try go_ints); (try go_simp); (try rw [if_pos (by omega)]); (first | done | rfl)))
            · intro L T w hL hpre hpost hG
              obtain ⟨h1, h2, h3⟩ := hG
              have l9 : L 9 = false := hpost 9 _ rfl rfl
              refine .inl ⟨rfl, fun a K hK => ?_⟩
              simp only [execOp]
              go_simp
              refine (putLe32_any _ [] _ _ (Rd.nil _) (by simp) (by omega)).mono ?_
              rintro e w' ⟨v, rfl, hb, hw⟩
              refine hK _ _ ⟨h1.stay hb, by simpa using h2.stay hb, fun _ _ => by simpa using Rd.of_own hw⟩
            · intro L T w hL hpre hpost hG
              obtain ⟨h1, h2, h3⟩ := hG
              have l9 : L 9 = false := hL
              simp only [l9, Bool.false_eq_true, if_false] at h2
              refine .inl ⟨rfl, fun a K hK => ?_⟩
              refine upon_copy (.tmp 68) (.tmp 74) 30 30 rfl 5 Tryd.underlying30 (by kernel_rfl) rfl rfl (h3 (hpre 8 rfl rfl) l9) (by rw [bs_len, lowN_len]; omega) (by rw [bs_len, lowN_len]; omega) h2 (by rw [bs_len, bs_len, lowN_len, List.length_append, outK_len, List.length_replicate]; omega) (bs_one _) ?_
              intro w' hb ho'
              refine hK _ _ ⟨h1.only ho' ho, ?_, fun _ h => by simp at h⟩
              rw [if_pos (by simp), outK, show 64 - 4 * (k + 1) = 64 - 4 * k - 4 from by omega]
              rw [bs_len, lowN_len, splice_zero _ _ _ _ 4 (outK_len _ _ _) (lowN_len _ _)] at hb
              exact hb
          case hend =>
            intro L T w hall hG
            obtain ⟨h1, h2, h3⟩ := hG
            rw [if_pos (hall 9 (by decide) rfl)] at h2
            simp only [fillT, fillP, List.foldl_cons, List.foldl_nil, Act.put]
            go_wp2_with fail
            refine ⟨⟨k + 1, by omega, by go_num, h1, h2⟩, by simp [intOf]; omega⟩
        · obtain rfl : k = 16 := by omega
          go_wp2_with (first
            | (refine wp_load_blk rfl 27 (.tmp 11) rfl rfl hbo Tryd.underlying27 rfl (n := 64) (by kernel_rfl) (by rw [bs_len, List.length_append, outK_len, List.length_replicate]) ?_)
            | (refine wp_store_blk rfl 27 (.tmp 6) (.tmp 77) rfl rfl rfl inv.o (bs_one _) (by rw [bs_len, bs_len, List.length_append, outK_len, List.length_replicate, List.length_replicate]) (n := 64) (by kernel_rfl) (by rw [bs_len, List.length_append, outK_len, List.length_replicate]) ?_; intro w' hb ho'))
          refine ret_blk rfl rfl hb Tryd.underlying27 rfl (n := 64) (by kernel_rfl) (by rw [bs_len, List.length_append, outK_len, List.length_replicate]) rfl ?_
          rw [hB]
          refine ⟨?_, ho'.below inv.b (by omega)⟩
          rw [show block key c nonce = outK sr s0 16 from by rw [block, ← HF.out (), HS.out (), HSR.out ()]]
          simp
end Go.Proofs.YtmjjnaaiakchhaaDoor
end

section
/-
  A struct's value that is built of parts of more than one cell.
-/
namespace Go.Proofs.YtmjjnaaiakchhaaDoor
open Go

def spl (zs : List Value) (off : Nat) (l : List Value) : List Value := zs.take off ++ l ++ zs.drop (off + l.length)
theorem spl_len (zs : List Value) (off : Nat) (l : List Value) (h : off + l.length ≤ zs.length) : (spl zs off l).length = zs.length := by simp [spl]; omega
theorem foldl_put (off : Nat) : ∀ (l : List Value) (k : Nat) (cs : Array Value), off + k + l.length ≤ cs.size →
    ((l.zipIdx k).foldl (fun cs (x : Value × Nat) => cs.setIfInBounds (off + x.2) x.1) cs).toList = cs.toList.take (off + k) ++ l ++ cs.toList.drop (off + k + l.length)
  | [], k, cs, _ => by simp
  | x :: l, k, cs, h => by
    simp only [List.length_cons] at h
    simp only [List.zipIdx_cons, List.foldl_cons]
    rw [foldl_put off l (k + 1) _ (by simp; omega)]
    have hlt : off + k < cs.toList.length := by simp; omega
    simp only [Array.toList_setIfInBounds, ← Nat.add_assoc]
    rw [List.take_succ_eq_append_getElem (by simpa using hlt), List.getElem_set_self, List.take_set_of_le (Nat.le_refl _), List.drop_set_of_lt (by omega)]
    simp only [List.append_assoc, List.cons_append, List.nil_append, List.length_cons]
    rw [show off + k + (l.length + 1) = off + k + 1 + l.length by omega]
theorem fill_spl {place : Nat → Option (Nat × Nat)} {zs : List Value} {i off size : Nat} {v : Value} {rest : List (Nat × Value)} (hp : place i = some (off, size)) (hv : v.cells.size = size) (hl : off + size ≤ zs.length) :
    Instr.fill place zs.toArray ((i, v) :: rest) = Instr.fill place (spl zs off v.cells.toList).toArray rest := by
  subst hv
  rw [Instr.fill, hp]
  simp only
  rw [if_neg (by simp; omega)]
  congr 1
  apply Array.toList_inj.1
  have h := foldl_put off v.cells.toList 0 zs.toArray (by simpa using hl)
  rw [← Array.foldl_toList, Array.toList_zipIdx]
  simpa [spl] using h
/-- An operation whose run is known. -/
theorem wp_value {P : Program} {ops : Array Oper} {rest : List Oper} {o : Oper} {a : Act} {w : World} {Q : Exit → Act → World → Prop} {v : Value} (hg : o.guard = none) (hr : (execOp a.eval o).run P w = .ok (.value v) w) (h : wpList P ops Q rest (a.put o.dst v) w) : wpList P ops Q (o :: rest) a w :=
  wpList_plain hg fun K hK => by
    show o.upon P a K Q ((execOp a.eval o).run P w)
    rw [hr]
    exact hK _ _ h
end Go.Proofs.YtmjjnaaiakchhaaDoor
end

section
/-
  chacha.Stream: where it stands; New, Left.
-/
namespace Go.Proofs.YtmjjnaaiakchhaaDoor
open Go.RowKit

/-- Byte number i of the stream from counter c on. -/
def ksB (key nonce : List Int) (c : Int) (i : Nat) : Int := (block key (c + (i / 64 : Nat)) nonce).getD (i % 64) 0
def ksL (key nonce : List Int) (c : Int) (a n : Nat) : List Int := (List.range n).map fun j => ksB key nonce c (a + j)
theorem ksL_len (key nonce : List Int) (c : Int) (a n : Nat) : (ksL key nonce c a n).length = n := by simp [ksL]
theorem ksL_cons (key nonce : List Int) (c : Int) (a n : Nat) : ksL key nonce c a (n + 1) = ksB key nonce c a :: ksL key nonce c (a + 1) n := by
  simp only [ksL, List.range_succ_eq_map, List.map_cons, List.map_map, Nat.add_zero, List.cons.injEq, true_and]
  apply List.map_congr_left
  intro j _
  simp only [Function.comp]
  congr 1
  omega
theorem ksL_block (key nonce : List Int) (c : Int) (q : Nat) (h : (block key (c + (q : Nat)) nonce).length = 64) : ksL key nonce c (64 * q) 64 = block key (c + (q : Nat)) nonce := by
  apply List.ext_getElem (by rw [ksL_len, h])
  intro j h1 h2
  rw [ksL_len] at h1
  simp only [ksL, List.getElem_map, List.getElem_range, ksB]
  rw [show (64 * q + j) / 64 = q by omega, show (64 * q + j) % 64 = j by omega, List.getD_eq_getElem?_getD, List.getElem?_eq_getElem h2]
  rfl
theorem ksL_append (key nonce : List Int) (c : Int) (a n m : Nat) : ksL key nonce c a (n + m) = ksL key nonce c a n ++ ksL key nonce c (a + n) m := by
  induction n generalizing a with
  | zero => simp [ksL]
  | succ n ih => rw [show n + 1 + m = (n + m) + 1 by omega, ksL_cons, ksL_cons, ih, List.cons_append, show a + 1 + n = a + (n + 1) by omega]

/-- How many bytes of a begun block are left. -/
def left64 (pos : Nat) : Nat := (64 - pos % 64) % 64
def streamC (key nonce : List Int) (next : Int) (rest : Value) (made : Bool) : List Value := bs key ++ bs nonce ++ [.int .u64 next, rest, .bool made]

/-- A stream that stands at byte 'pos'. -/
structure StreamAt (w : World) (g : Nat) (key nonce : List Int) (c : Int) (pos : Nat) (rest : Value) : Prop where
  blk : Blk w g (streamC key nonce (c + ((pos + 63) / 64 : Nat)) rest true) 73
  rd : Rd w rest (bs (ksL key nonce c pos (left64 pos)))
  far : ∀ b o n k, rest = .slice (some ⟨b, o, none⟩) n k → b ≠ g ∧ b < w.heap.size

theorem StreamAt.stay {w w' : World} {g : Nat} {key nonce : List Int} {c : Int} {pos : Nat} {rest : Value} (h : StreamAt w g key nonce c pos rest) (hb : Below w.heap.size w w') : StreamAt w' g key nonce c pos rest :=
  ⟨h.blk.stay hb, h.rd.stay hb (Nat.le_refl _), fun b o n k e => ⟨(h.far b o n k e).1, Nat.lt_of_lt_of_le (h.far b o n k e).2 hb.size⟩⟩

theorem streamC_len (key nonce : List Int) (next : Int) (rest : Value) (made : Bool) (hk : key.length = 32) (hn : nonce.length = 12) : (streamC key nonce next rest made).length = 47 := by
  simp [streamC, bs_len, hk, hn]
theorem streamC_at (key nonce : List Int) (next : Int) (rest : Value) (made : Bool) (hk : key.length = 32) (hn : nonce.length = 12) :
    (streamC key nonce next rest made)[44]? = some (.int .u64 next) ∧ (streamC key nonce next rest made)[45]? = some rest ∧ (streamC key nonce next rest made)[46]? = some (.bool made) := by
  unfold streamC
  have h44 : (bs key ++ bs nonce).length = 44 := by simp [bs_len, hk, hn]
  refine ⟨?_, ?_, ?_⟩ <;> rw [List.getElem?_append_right (by omega), h44] <;> rfl

theorem block_len (key nonce : List Int) (c : Int) : (block key c nonce).length = 64 := by simp [block, outK_len]

theorem left_nil (w : World) : Calls Tryd.prog 22 #[.pointer none] w fun e w' => e = .returned (.int .u64 0) ∧ Below w.heap.size w w' := by
  go_enter Tryd.func22, Tryd.ntmps22
  go_wp2_with fail
  all_goals (go_ret; exact ⟨rfl, Below.refl _ _⟩)

set_option maxHeartbeats 1000000 in
theorem left_any (w : World) (g : Nat) (key nonce : List Int) (c : Int) (pos : Nat) (rest : Value) (hk : key.length = 32) (hn : nonce.length = 12) (hs : StreamAt w g key nonce c pos rest) (hc : 0 ≤ c ∧ c < 4294967296) (hpos : (pos : Int) ≤ (4294967296 - c) * 64) :
    Calls Tryd.prog 22 #[.pointer (some ⟨g, 0, none⟩)] w fun e w' => e = .returned (.int .u64 ((4294967296 - c) * 64 - pos)) ∧ Below w.heap.size w w' := by
  obtain ⟨q1, q2, q3⟩ := streamC_at key nonce (c + ((pos + 63) / 64 : Nat)) rest true hk hn
  have c44 : w.cell? ⟨g, 44, none⟩ = some (.int .u64 (c + ((pos + 63) / 64 : Nat))) := (hs.blk.get 44).trans q1
  have c45 : w.cell? ⟨g, 45, none⟩ = some rest := (hs.blk.get 45).trans q2
  have c46 : w.cell? ⟨g, 46, none⟩ = some (.bool true) := (hs.blk.get 46).trans q3
  obtain ⟨A, k, hrest, _, _, _, _⟩ := hs.rd
  rw [bs_len, ksL_len] at hrest
  subst hrest
  obtain ⟨q, hq⟩ : ∃ q, (pos + 63) / 64 = q := ⟨_, rfl⟩
  obtain ⟨r, hr⟩ : ∃ r, left64 pos = r := ⟨_, rfl⟩
  have hr1 : r ≤ 63 := by rw [← hr]; unfold left64; omega
  have hqr : 64 * q = pos + r := by rw [← hr, ← hq]; unfold left64; omega
  rw [hq] at c44
  rw [hr] at c45
  have hq2 : c + (q : Int) ≤ 4294967296 := by omega
  have hfin : (4294967296 - (c + (q : Int))) * 64 + (r : Int) = (4294967296 - c) * 64 - pos := by omega
  clear hq hr hs q1 q2 q3
  go_enter Tryd.func22, Tryd.ntmps22
  go_upto_region 3 with fail
  go_quiet (fail)
  go_wp2_with fail
  all_goals go_ret
  exact ⟨rfl, bw_dr (Below.refl _ _) _⟩

theorem infoStream : (Tryd.prog.info? 73).map (·.zero) = some (some (.agg (bs (List.replicate 32 0) ++ (bs (List.replicate 12 0) ++ [Value.int .u64 0, Value.slice none 0 0, Value.bool false])).toArray)) := by kernel_rfl
set_option maxRecDepth 100000 in
theorem build_stream (key nonce : List Int) (hk : key.length = 32) (hn : nonce.length = 12) (c : Int) (w : World) : (Instr.build 73 #[(0, .agg (bs key).toArray), (1, .agg (bs nonce).toArray), (2, .int .u64 c), (4, .bool true)]).run Tryd.prog w = .ok (.agg (bs key ++ bs nonce ++ [Value.int .u64 c, Value.slice none 0 0, Value.bool true]).toArray) w := by
  obtain ⟨i, hi, hz⟩ := Option.map_eq_some_iff.1 infoStream
  obtain ⟨fs, hfs, hpl⟩ : ∃ fs, Tryd.prog.underlying 73 = some (.struct fs) ∧ ∀ w, (Array.mapM (fun (f : Field) => do pure (f.offset, ← sizeOf f.type)) fs : Sem (Array (Nat × Nat))).run Tryd.prog w = .ok #[(0, 32), (32, 12), (44, 1), (45, 1), (46, 1)] w := ⟨_, Tryd.underlying73, fun w => by kernel_rfl⟩
  have hl0 : (bs key).length = 32 := by rw [bs_len, hk]
  have hl1 : (bs nonce).length = 12 := by rw [bs_len, hn]
  unfold Instr.build
  simp only [Sem.run_bind, zeroValue, typeInfo, run_program, Result.andThen_ok, hi, hz, Sem.run_pure, run_underlying hfs, hpl]
  have h0 : ∀ place : Nat → Option (Nat × Nat), place 0 = some (0, 32) → place 1 = some (32, 12) → place 2 = some (44, 1) → place 4 = some (46, 1) → Instr.fill place (bs (List.replicate 32 0) ++ (bs (List.replicate 12 0) ++ [Value.int .u64 0, Value.slice none 0 0, Value.bool false])).toArray [(0, .agg (bs key).toArray), (1, .agg (bs nonce).toArray), (2, .int .u64 c), (4, .bool true)] =
      some (bs key ++ bs nonce ++ [Value.int .u64 c, Value.slice none 0 0, Value.bool true]).toArray := by
    intro place p0 p1 p2 p4
    have r32 : (bs (List.replicate 32 0)).length = 32 := by rw [bs_len, List.length_replicate]
    have r12 : (bs (List.replicate 12 0)).length = 12 := by rw [bs_len, List.length_replicate]
    generalize bs (List.replicate 32 0) = z32 at *
    generalize bs (List.replicate 12 0) = z12 at *
    have e1 : spl (z32 ++ (z12 ++ [Value.int .u64 0, Value.slice none 0 0, Value.bool false])) 0 (bs key) = bs key ++ (z12 ++ [Value.int .u64 0, Value.slice none 0 0, Value.bool false]) := by
      simp only [spl, List.take_zero, List.nil_append, Nat.zero_add, hl0]
      rw [← r32, List.drop_left]
    have e2 : spl (bs key ++ (z12 ++ [Value.int .u64 0, Value.slice none 0 0, Value.bool false])) 32 (bs nonce) = bs key ++ (bs nonce ++ [Value.int .u64 0, Value.slice none 0 0, Value.bool false]) := by
      simp only [spl, hl1]
      rw [← hl0, List.take_left, ← List.drop_drop, List.drop_left, ← r12, List.drop_left, List.append_assoc]
    have e3 : spl (bs key ++ (bs nonce ++ [Value.int .u64 0, Value.slice none 0 0, Value.bool false])) 44 [Value.int .u64 c] = bs key ++ (bs nonce ++ [Value.int .u64 c, Value.slice none 0 0, Value.bool false]) := by
      have h44 : (bs key ++ bs nonce).length = 44 := by simp [hl0, hl1]
      simp only [spl, ← List.append_assoc]
      rw [← h44, List.take_left, ← List.drop_drop, List.drop_left]
      simp
    have e4 : spl (bs key ++ (bs nonce ++ [Value.int .u64 c, Value.slice none 0 0, Value.bool false])) 46 [Value.bool true] = bs key ++ bs nonce ++ [Value.int .u64 c, Value.slice none 0 0, Value.bool true] := by
      have h46 : (bs key ++ bs nonce ++ [Value.int .u64 c, Value.slice none 0 0]).length = 46 := by simp [hl0, hl1]
      rw [show bs key ++ (bs nonce ++ [Value.int .u64 c, Value.slice none 0 0, Value.bool false]) = (bs key ++ bs nonce ++ [Value.int .u64 c, Value.slice none 0 0]) ++ [Value.bool false] by simp]
      simp only [spl]
      rw [← h46, List.take_left, ← List.drop_drop, List.drop_left]
      simp
    rw [fill_spl p0 (by show (bs key).toArray.size = 32; rw [List.size_toArray, hl0]) (by simp [r32, r12])]
    simp only [Value.cells]
    rw [e1, fill_spl p1 (by show (bs nonce).toArray.size = 12; rw [List.size_toArray, hl1]) (by simp [hl0, r12])]
    simp only [Value.cells]
    rw [e2, fill_spl p2 rfl (by simp [hl0, hl1])]
    simp only [Value.cells]
    rw [e3, fill_spl p4 rfl (by simp [hl0, hl1])]
    simp only [Value.cells]
    rw [e4, Instr.fill]
  have h1 := h0 (fun x => (#[(0, 32), (32, 12), (44, 1), (45, 1), (46, 1)] : Array (Nat × Nat))[x]?) rfl rfl rfl rfl
  simp only [Value.cells]
  rw [h1]
  rfl
theorem wp_build_stream {ops : Array Oper} {rest : List Oper} {o : Oper} {a : Act} {w : World} {Q : Exit → Act → World → Prop} (hg : o.guard = none) (x0 x1 x2 : Tmp) (ho : o.op = .build 73 #[(0, .tmp x0), (1, .tmp x1), (2, .tmp x2), (4, .const (.bool true))])
    {key nonce : List Int} {c : Int} (hk : key.length = 32) (hn : nonce.length = 12) (h0 : a.eval (.tmp x0) = .agg (bs key).toArray) (h1 : a.eval (.tmp x1) = .agg (bs nonce).toArray) (h2 : a.eval (.tmp x2) = .int .u64 c)
    (h : wpList Tryd.prog ops Q rest (a.put o.dst (.agg (streamC key nonce c (.slice none 0 0) true).toArray)) w) : wpList Tryd.prog ops Q (o :: rest) a w := by
  refine wp_value hg ?_ h
  have h3 : a.eval (.const (.bool true)) = .bool true := rfl
  simp only [execOp, ho, List.map_toArray, List.map_cons, List.map_nil, h0, h1, h2, h3, Sem.run_bind, build_stream key nonce hk hn, Result.andThen_ok, Sem.run_pure]
  rfl

set_option maxRecDepth 100000 in
set_option maxHeartbeats 1000000 in
theorem newstream_any (w : World) (key nonce : List Int) (c : Int) (hk : key.length = 32) (hn : nonce.length = 12) (hc : 0 ≤ c ∧ c < 4294967296) :
    Calls Tryd.prog 19 #[.agg (bs key).toArray, .int .u32 c, .agg (bs nonce).toArray] w fun e w' => ∃ g, e = .returned (.pointer (some ⟨g, 0, none⟩)) ∧ w.heap.size ≤ g ∧ StreamAt w' g key nonce c 0 (.slice none 0 0) ∧ Below w.heap.size w w' := by
  have HK := Lib.hid hk
  have HN := Lib.hid hn
  clear hk hn
  obtain ⟨B, hB⟩ : ∃ B, w.heap.size = B := ⟨_, rfl⟩
  go_enter Tryd.func19, Tryd.ntmps19
  go_upto_region 1 with fail
  have b0 : Blk ((w.alloc (.cells (bs key).toArray 22)).alloc (.cells (bs nonce).toArray 24)) B (bs key) 22 := (Blk.mk_ _ hB.symm rfl).al _
  have b1 : Blk ((w.alloc (.cells (bs key).toArray 22)).alloc (.cells (bs nonce).toArray 24)) (B + 1) (bs nonce) 24 := Blk.mk_ _ (by simp [hB]) rfl
  have bb : Below B w ((w.alloc (.cells (bs key).toArray 22)).alloc (.cells (bs nonce).toArray 24)) := bw_al (bw_al (Below.refl _ _) (by omega) _) (by simp; omega) _
  generalize ((w.alloc (.cells (bs key).toArray 22)).alloc (.cells (bs nonce).toArray 24)) = w1 at *
  go_wp2_with (first
    | (refine wp_load_blk rfl 22 (.tmp 3) rfl rfl b0 Tryd.underlying22 rfl (n := 32) (by kernel_rfl) (by rw [bs_len, HK.out]) ?_)
    | (refine wp_load_blk rfl 24 (.tmp 5) rfl rfl b1 Tryd.underlying24 rfl (n := 12) (by kernel_rfl) (by rw [bs_len, HN.out]) ?_)
    | (refine wp_build_stream rfl 7 8 10 rfl HK.out HN.out rfl rfl rfl ?_))
  all_goals go_ret
  have hs : B ≤ w1.heap.size := by have := b0.lt; omega
  refine ⟨w1.heap.size, rfl, by rw [hB]; exact hs, ⟨?_, ?_, fun b o n k h => by cases h⟩, by rw [hB]; exact bw_al bb hs _⟩
  · have e : c + (((0 + 63) / 64 : Nat) : Int) = c := by simp
    rw [e]
    exact Blk.mk_ w1 rfl rfl
  · exact Rd.nil _
end Go.Proofs.YtmjjnaaiakchhaaDoor
end

section
/-
  (*chacha.Stream).Xor.
-/
namespace Go.Proofs.YtmjjnaaiakchhaaDoor
open Go.RowKit

def xorL (key nonce : List Int) (c : Int) (pos : Nat) (xs : List Int) (k : Nat) : List Int := (List.range k).map fun i => bits .xor .u8 (xs.getD i 0) (ksB key nonce c (pos + i))
theorem xorL_len (key nonce : List Int) (c : Int) (pos : Nat) (xs : List Int) (k : Nat) : (xorL key nonce c pos xs k).length = k := by simp [xorL]
theorem xorL_succ (key nonce : List Int) (c : Int) (pos : Nat) (xs : List Int) (k : Nat) : xorL key nonce c pos xs (k + 1) = xorL key nonce c pos xs k ++ [bits .xor .u8 (xs.getD k 0) (ksB key nonce c (pos + k))] := by simp [xorL, List.range_succ]

/-- A made slice is a block of its own. -/
theorem blk_of_full {w : World} {base n : Nat} {e : TypeId} {xs : List Value} {g : Nat} (h : w.ownsRow base e 1 (.slice (some ⟨g, 0, none⟩) n n) n xs) : Blk w g xs e := by
  have hl := h.1
  rcases h.2 with ⟨h1, _⟩ | ⟨g', cap, cur, h1, _, hg, hn, hc, hs, ht⟩
  · cases h1
  · cases h1
    unfold Blk
    rw [hg]
    congr 2
    apply Array.toList_inj.1
    rw [← ht, List.take_of_length_le (by simp [hs])]

set_option maxRecDepth 100000 in
set_option maxHeartbeats 4000000 in
theorem sxor_long (w : World) (g : Nat) (key nonce : List Int) (c : Int) (pos : Nat) (rest : Value) (v : Value) (xs : List Int) (hk : key.length = 32) (hn : nonce.length = 12) (hs : StreamAt w g key nonce c pos rest) (hc : 0 ≤ c ∧ c < 4294967296) (hpos : (pos : Int) ≤ (4294967296 - c) * 64)
    (hd : Rd w v (bs xs)) (hlong : (4294967296 - c) * 64 - pos < (xs.length : Int)) :
    Calls Tryd.prog 20 #[.pointer (some ⟨g, 0, none⟩), v] w fun e w' => e = .returned (.tuple #[.slice none 0 0, .bool false]) ∧ Below w.heap.size w w' := by
  obtain ⟨A, cap, rfl, hc1, hc2, h0, h3⟩ := hd
  rw [bs_len] at *
  unfold maxLen at hc2
  go_enter Tryd.func20, Tryd.ntmps20
  go_wp2_with (go_at_call 22; refine (left_any w g key nonce c pos rest hk hn hs hc hpos).mono ?_; rintro e w1 ⟨rfl, hb1⟩)
  all_goals go_ret2
  all_goals exact ⟨rfl, hb1⟩

/-- Where the loop stands. -/
structure XInv (B : Nat) (w0 wr : World) (g go : Nat) (key nonce : List Int) (c : Int) (pos : Nat) (xs : List Int) (k : Nat) (rest : Value) : Prop where
  tu : Turns (fun b => b = g) w0 wr
  st : StreamAt wr g key nonce c (pos + k) rest
  out : Blk wr go (bs (xorL key nonce c pos xs k ++ List.replicate (xs.length - k) 0)) 5
  new : w0.heap.size ≤ go
  ne : go ≠ g
  far : ∀ b o n k', rest = .slice (some ⟨b, o, none⟩) n k' → b ≠ go
  tab : Tab wr
  g0 : 0 < g ∧ 0 < go

theorem streamC_set (key nonce : List Int) (n : Int) (r r' : Value) (m : Bool) (hk : key.length = 32) (hn : nonce.length = 12) : (streamC key nonce n r m).set 45 r' = streamC key nonce n r' m := by
  have h44 : (bs key ++ bs nonce).length = 44 := by simp [bs_len, hk, hn]
  unfold streamC
  rw [List.set_append_right _ _ (by omega), h44]
  rfl
theorem streamC_set44 (key nonce : List Int) (n n' : Int) (r : Value) (m : Bool) (hk : key.length = 32) (hn : nonce.length = 12) : (streamC key nonce n r m).set 44 (.int .u64 n') = streamC key nonce n' r m := by
  have h44 : (bs key ++ bs nonce).length = 44 := by simp [bs_len, hk, hn]
  unfold streamC
  rw [List.set_append_right _ _ (by omega), h44]
  rfl
theorem Rd.other {w : World} {v : Value} {xs : List Value} (h : Rd w v xs) (a : Addr) (x : Value) (hne : ∀ b o n k, v = .slice (some ⟨b, o, none⟩) n k → b ≠ a.block) : Rd (w.setCell a x) v xs := by
  obtain ⟨A, c, rfl, h1, h2, h3, h4⟩ := h
  refine ⟨A, c, rfl, h1, h2, h3, ?_⟩
  rcases h4 with h4 | ⟨b, o, rfl, h4⟩
  · exact .inl h4
  · refine .inr ⟨b, o, rfl, fun j hj => ?_⟩
    rw [← h4 j hj]
    exact World.cell?_of_block (Below.heap_setCell _ _ _ _ (hne b o _ _ rfl))
theorem xor_set (key nonce : List Int) (c : Int) (pos : Nat) (xs : List Int) (k : Nat) (hk : k < xs.length) :
    (bs (xorL key nonce c pos xs k ++ List.replicate (xs.length - k) 0)).set k (.int .u8 (bits .xor .u8 (xs.getD k 0) (ksB key nonce c (pos + k)))) = bs (xorL key nonce c pos xs (k + 1) ++ List.replicate (xs.length - (k + 1)) 0) := by
  rw [xorL_succ]
  obtain ⟨m, hm⟩ : ∃ m, xs.length - k = m + 1 := ⟨xs.length - k - 1, by omega⟩
  rw [hm, show xs.length - (k + 1) = m by omega, List.replicate_succ]
  have hl := xorL_len key nonce c pos xs k
  generalize xorL key nonce c pos xs k = l at *
  subst hl
  simp [bs]

theorem XInv.step {B : Nat} {w0 wr : World} {g go : Nat} {key nonce : List Int} {c : Int} {pos : Nat} {xs : List Int} {k : Nat} {restX rest2 : Value} (hk : k < xs.length) (hkl : key.length = 32) (hnl : nonce.length = 12)
    (tu : Turns (fun b => b = g) w0 wr) (blk : Blk wr g (streamC key nonce (c + ((pos + (k + 1) + 63) / 64 : Nat)) restX true) 73) (out : Blk wr go (bs (xorL key nonce c pos xs k ++ List.replicate (xs.length - k) 0)) 5)
    (new : w0.heap.size ≤ go) (ne : go ≠ g) (tab : Tab wr) (g0 : 0 < g ∧ 0 < go) (rd : Rd wr rest2 (bs (ksL key nonce c (pos + (k + 1)) (left64 (pos + (k + 1)))))) (far : ∀ b o n k', rest2 = .slice (some ⟨b, o, none⟩) n k' → b ≠ g ∧ b < wr.heap.size ∧ b ≠ go) :
    XInv B w0 ((wr.setCell ⟨go, k, none⟩ (.int .u8 (bits .xor .u8 (xs.getD k 0) (ksB key nonce c (pos + k))))).setCell ⟨g, 45, none⟩ rest2) g go key nonce c pos xs (k + 1) rest2 := by
  have hsz : ∀ (w : World) (a : Addr) (v : Value), (w.setCell a v).heap.size = w.heap.size := fun w a v => by simp [World.setCell]
  refine ⟨?_, ⟨?_, ?_, ?_⟩, ?_, new, ne, ?_, ?_, g0⟩
  · have t1 : Turns (fun b => b = g) w0 (wr.setCell ⟨go, k, none⟩ (.int .u8 (bits .xor .u8 (xs.getD k 0) (ksB key nonce c (pos + k))))) :=
      ⟨tu.os, tu.tape, tu.output, by rw [hsz]; exact tu.size, fun j hj hs => (Below.heap_setCell _ _ _ _ (by show j ≠ go; omega)).trans (tu.block j hj hs)⟩
    exact t1.trans (Turns.set _ _ _ _ rfl)
  · have := (blk.other (a := ⟨go, k, none⟩) (Ne.symm ne) (.int .u8 (bits .xor .u8 (xs.getD k 0) (ksB key nonce c (pos + k))))).set 45 rest2
    rwa [streamC_set _ _ _ _ _ _ hkl hnl] at this
  · exact (rd.other _ _ fun b o n k' h => (far b o n k' h).2.2).other _ _ fun b o n k' h => (far b o n k' h).1
  · intro b o n k' h
    exact ⟨(far b o n k' h).1, by rw [hsz, hsz]; exact (far b o n k' h).2.1⟩
  · have := (out.set k (.int .u8 (bits .xor .u8 (xs.getD k 0) (ksB key nonce c (pos + k))))).other (a := ⟨g, 45, none⟩) ne rest2
    rwa [xor_set key nonce c pos xs k hk] at this
  · exact fun b o n k' h => (far b o n k' h).2.2
  · exact (tab.other (by show 0 ≠ go; omega) _).other (by show 0 ≠ g; omega) _

set_option maxRecDepth 100000 in
set_option maxHeartbeats 8000000 in
theorem sxor_any (w : World) (g : Nat) (key nonce : List Int) (c : Int) (pos : Nat) (rest : Value) (v : Value) (xs : List Int) (hk : key.length = 32) (hn : nonce.length = 12) (hkb : IsB key) (hnb : IsB nonce) (hs : StreamAt w g key nonce c pos rest) (hc : 0 ≤ c ∧ c < 4294967296)
    (hpos : (pos : Int) ≤ (4294967296 - c) * 64) (hd : Rd w v (bs xs)) (hxs : IsB xs) (hdv : 0 < xs.length → ∀ b o n k, v = .slice (some ⟨b, o, none⟩) n k → b ≠ g) (hg0 : 0 < g) (ht : Tab w) (hlen : xs.length ≤ 4294967296) (hlong : (xs.length : Int) ≤ (4294967296 - c) * 64 - pos) :
    Calls Tryd.prog 20 #[.pointer (some ⟨g, 0, none⟩), v] w fun e w' => ∃ o rest', e = .returned (.tuple #[.slice (some ⟨o, 0, none⟩) xs.length xs.length, .bool true]) ∧ w.heap.size ≤ o ∧ Blk w' o (bs (xorL key nonce c pos xs xs.length)) 5 ∧
      StreamAt w' g key nonce c (pos + xs.length) rest' ∧ (∀ b p n k, rest' = .slice (some ⟨b, p, none⟩) n k → b ≠ o) ∧ Turns (fun b => b = g) w w' := by
  obtain ⟨i, hi, hz0, hz1, hz2⟩ := info_parts info5
  have hd0 := hd
  obtain ⟨A, cap, rfl, hc1, hc2, h0, h3⟩ := hd
  rw [bs_len] at *
  unfold maxLen at hc2
  have hlt := hs.blk.lt
  go_enter Tryd.func20, Tryd.ntmps20
  go_upto_region 4 with (first
    | (go_at_call 22; refine (left_any w g key nonce c pos rest hk hn hs hc hpos).mono ?_; rintro e w1 ⟨rfl, hb1⟩)
    | (refine wpList_make_full w1 rfl (.tmp 17) (.tmp 17) 30 rfl w.heap.size 5 i _ 1 Tryd.underlying30 hi hz0 hz1 .i64 .i64 _ _ xs.length rfl rfl rfl rfl (by rw [hz2]; omega) (by unfold maxLen; omega) hb1.size ?_; intro w2 hown hgrow))
  have hb2 : Below w.heap.size w w2 := hb1.grown hgrow hb1.size (fun k h => by cases h)
  have hout : Blk w2 w1.heap.size (bs (List.replicate xs.length 0)) 5 := by
    have h := blk_of_full hown
    rw [show (Value.cells (Value.int IntKind.u8 0)) = #[Value.int IntKind.u8 0] from rfl, Nat.mul_one, toList_madeCells_one] at h
    simpa [bs] using h
  obtain ⟨go, hgo⟩ : ∃ go, w1.heap.size = go := ⟨_, rfl⟩
  rw [hgo] at hout
  have hgo1 : w.heap.size ≤ go := by rw [← hgo]; exact hb1.size
  have hgog : go ≠ g := by omega
  have hrf : ∀ b o n k, rest = .slice (some ⟨b, o, none⟩) n k → b < w.heap.size := fun b o n k h => (hs.far b o n k h).2
  have inv0 : XInv w.heap.size w w2 g go key nonce c pos xs 0 rest := by
    refine ⟨Turns.of_below hb2, ?_, ?_, hgo1, hgog, ?_, ht.keep hb2 ht.lt, hg0, by have := ht.lt; omega⟩
    · rw [Nat.add_zero]; exact hs.stay hb2
    · simpa [xorL] using hout
    · intro b o n k h
      have := hrf b o n k h
      omega
  simp only [hgo]
  clear hb1 hb2 hout hown hgrow hs
  go_upto_region 5 with fail
  go_loopw [21] (fun i wr => ∃ (k : Nat) (rest' : Value), k ≤ xs.length ∧ i = .int .i64 k ∧ XInv w.heap.size w wr g go key nonce c pos xs k rest') (fun i _ => xs.length - (intOf i).toNat)
  case atStart => exact ⟨0, rest, Nat.zero_le _, rfl, inv0⟩
  case round =>
    obtain ⟨k, rest', hk', rfl, inv⟩ := hrel
    by_cases hlt' : k < xs.length
    · obtain ⟨q1, q2, q3⟩ := streamC_at key nonce (c + ((pos + k + 63) / 64 : Nat)) rest' true hk hn
      have c44 : wr.cell? ⟨g, 44, none⟩ = some (.int .u64 (c + ((pos + k + 63) / 64 : Nat))) := (inv.st.blk.get 44).trans q1
      have c45 : wr.cell? ⟨g, 45, none⟩ = some rest' := (inv.st.blk.get 45).trans q2
      have f45 := inv.st.blk.free 45
      have f44 := inv.st.blk.free 44
      have fo := inv.out.free k
      have co : wr.cell? ⟨go, k, none⟩ = some (.int .u8 0) := by
        rw [inv.out.get, bs, List.getElem?_map, List.getElem?_append_right (by rw [xorL_len]; exact Nat.le_refl _), xorL_len, Nat.sub_self, List.getElem?_replicate, if_pos (by omega)]
        rfl
      obtain ⟨bd, od, rfl, hcd⟩ : ∃ bd od, A = some ⟨bd, od, none⟩ ∧ ∀ j (h : j < xs.length), w.cell? ⟨bd, od + j, none⟩ = some (.int .u8 (xs.getD j 0)) := by
        rcases h3 with h3 | ⟨b, o, hA, h3⟩
        · have : (bs xs).length = 0 := by rw [h3]; rfl
          rw [bs_len] at this
          omega
        · refine ⟨b, o, hA, fun j hj => ?_⟩
          rw [h3 j (by rw [bs_len]; exact hj)]
          simp [bs, List.getD_eq_getElem?_getD, List.getElem?_eq_getElem hj]
      have cd : wr.cell? ⟨bd, od + k, none⟩ = some (.int .u8 (xs.getD k 0)) := inv.tu.cell (by intro hh; exact hdv (by omega) bd od xs.length cap rfl hh) (hcd k hlt')
      obtain ⟨x, hx⟩ : ∃ x, xs.getD k 0 = x := ⟨_, rfl⟩
      have hxr : 0 ≤ x ∧ x ≤ 255 := by rw [← hx]; exact hxs.at_ k
      rw [hx] at cd
      obtain ⟨A', cap', hr', hrc1, hrc2, hr0, hr3⟩ := inv.st.rd
      rw [bs_len, ksL_len] at hr' hrc1
      by_cases hz : left64 (pos + k) = 0
      · obtain ⟨q, hq⟩ : ∃ q, pos + k = 64 * q := ⟨(pos + k) / 64, by unfold left64 at hz; omega⟩
        have hq2 : (pos + k + 63) / 64 = q := by omega
        rw [hq2] at c44
        have hq3 : c + (q : Int) < 4294967296 := by omega
        obtain ⟨cq, hcq⟩ : ∃ cq, c + (q : Int) = cq := ⟨_, rfl⟩
        rw [hcq] at c44 hq3
        have hcq0 : 0 ≤ cq := by omega
        rw [hz] at hr' hrc1
        subst hr'
        have HI := Lib.hid inv
        have HX := Lib.hid (fun _ : Unit => hx)
        have HQ := Lib.hid (fun _ : Unit => (⟨hq, hq2, hcq, hz⟩ : pos + k = 64 * q ∧ (pos + k + 63) / 64 = q ∧ c + (q : Int) = cq ∧ left64 (pos + k) = 0))
        have HC := Lib.hid hcd
        have hgs : g < wr.heap.size := inv.st.blk.lt
        have hgos : go < wr.heap.size := inv.out.lt
        clear hq hq2 hcq hz inv hx hcd h3 hr3 hr0 q1 q2 q3
        go_upto_region 8 with fail
        obtain ⟨S, hS⟩ : ∃ S, wr.heap.size = S := ⟨_, rfl⟩
        rw [hS] at hgs hgos
        refine region_draws [(32, ?v32), (33, ?v33), (34, ?v34), (35, .agg (bs key).toArray), (36, ?v36), (37, ?v37), (38, ?v38), (39, ?v39), (40, .int .u32 cq), (41, ?v41), (42, ?v42), (43, ?v43), (44, .agg (bs nonce).toArray)] [45, 9]
          (fun L T wx => Below S wr wx ∧ (L 13 = true → T 45 = .agg (bs (block key cq nonce)).toArray) ∧ (L 14 = true → ∃ g9, T 9 = .pointer (some ⟨g9, 0, none⟩) ∧ S ≤ g9 ∧ (L 15 = false → Blk wx g9 (bs (List.replicate 64 0)) 27) ∧ (L 15 = true → Blk wx g9 (bs (block key cq nonce)) 27)))
          (fun _ => undef) (by kernel_rfl) (by kernel_rfl) 78 rfl (by kernel_rfl) ?g0 ?hops ?hend
        case g0 => exact ⟨bw_d1 (Below.refl _ _), (fun h => by simp at h), (fun h => by simp at h)⟩
        case hops =>
          simp only [AllFrom]
          refine ⟨?_, ?_, ?_, ?_, ?_, ?_, ?_, ?_, ?_, ?_, ?_, ?_, ?_, ?_, ?_, ?_, trivial⟩
          · (intro L T w hpre hpost hG; skip; first | exact .inl ⟨rfl, rfl⟩ | (refine .inl ⟨rfl, ?_⟩; simp only [execOp]; go_simp; (try go_ints); (try go_simp); (try rw [if_pos (by omega)]); (first | done | rfl)))
          · (intro L T w hpre hpost hG; skip; first | exact .inl ⟨rfl, rfl⟩ | (refine .inl ⟨rfl, ?_⟩; simp only [execOp]; go_simp; (try go_ints); (try go_simp); (try rw [if_pos (by omega)]); (first | done | rfl)))
          · (intro L T w hpre hpost hG; skip; first | exact .inl ⟨rfl, rfl⟩ | (refine .inl ⟨rfl, ?_⟩; simp only [execOp]; go_simp; (try go_ints); (try go_simp); (try rw [if_pos (by omega)]); (first | done | rfl)))
          · (intro L T w hpre hpost hG; exact .inl ⟨rfl, exec_load_sub 22 (.tmp 34) rfl rfl (((HI.out.st.blk.keep hG.1 hgs).part 0 (by simp [streamC, bs_len, hk]))) Tryd.underlying22 rfl (n := 32) (by kernel_rfl) (by rw [bs_len, hk])⟩)
          · (intro L T w hpre hpost hG; skip; first | exact .inl ⟨rfl, rfl⟩ | (refine .inl ⟨rfl, ?_⟩; simp only [execOp]; go_simp; (try go_ints); (try go_simp); (try rw [if_pos (by omega)]); (first | done | rfl)))
          · (intro L T w hpre hpost hG; skip; first | exact .inl ⟨rfl, rfl⟩ | (refine .inl ⟨rfl, ?_⟩; simp only [execOp]; go_simp; (try go_ints); (try go_simp); (try rw [if_pos (by omega)]); (first | done | rfl)))
          · (intro L T w hpre hpost hG; skip; first | exact .inl ⟨rfl, rfl⟩ | (refine .inl ⟨rfl, ?_⟩; simp only [execOp]; go_simp; (try go_ints); (try go_simp); (try rw [if_pos (by omega)]); (first | done | rfl)))
          · (intro L T w hpre hpost hG; have d44 := (hG.1.cell (p := ⟨g, 44, none⟩) hgs).trans c44; first | exact .inl ⟨rfl, rfl⟩ | (refine .inl ⟨rfl, ?_⟩; simp only [execOp]; go_simp; (try go_ints); (try go_simp); (try rw [if_pos (by omega)]); (first | done | rfl)))
          · (intro L T w hpre hpost hG; skip; first | exact .inl ⟨rfl, rfl⟩ | (refine .inl ⟨rfl, ?_⟩; simp only [execOp]; go_simp; (try go_ints); (try go_simp); (try rw [if_pos (by omega)]); (first | done | rfl)))
          · (intro L T w hpre hpost hG; skip; first | exact .inl ⟨rfl, rfl⟩ | (refine .inl ⟨rfl, ?_⟩; simp only [execOp]; go_simp; (try go_ints); (try go_simp); (try rw [if_pos (by omega)]); (first | done | rfl)))
          · (intro L T w hpre hpost hG; skip; first | exact .inl ⟨rfl, rfl⟩ | (refine .inl ⟨rfl, ?_⟩; simp only [execOp]; go_simp; (try go_ints); (try go_simp); (try rw [if_pos (by omega)]); (first | done | rfl)))
          · (intro L T w hpre hpost hG; skip; first | exact .inl ⟨rfl, rfl⟩ | (refine .inl ⟨rfl, ?_⟩; simp only [execOp]; go_simp; (try go_ints); (try go_simp); (try rw [if_pos (by omega)]); (first | done | rfl)))
          · (intro L T w hpre hpost hG; exact .inl ⟨rfl, exec_load_sub 24 (.tmp 43) rfl rfl (((HI.out.st.blk.keep hG.1 hgs).part 32 (by simp [streamC, bs_len, hk, hn]))) Tryd.underlying24 rfl (n := 12) (by kernel_rfl) (by rw [bs_len, hn])⟩)
          · intro L T w hL hpre hpost hG
            obtain ⟨h1, h2, h3⟩ := hG
            have hp := hpost 15 _ rfl rfl
            have hsz := h1.size
            refine .inl ⟨rfl, fun a K hK => ?_⟩
            simp only [execOp]
            go_simp
            refine (blockc_any key nonce cq w hk hn hkb hnb (HI.out.tab.keep h1 (by omega))).mono ?_
            rintro e w' ⟨rfl, hb⟩
            refine hK _ _ ⟨bw_then h1 hb (by omega), fun _ => by simp, fun h => ?_⟩
            obtain ⟨g9, x1, x2, x3, x4⟩ := h3 (by simpa using h)
            exact ⟨g9, by simpa using x1, x2, fun h => (x3 hp).stay hb, fun h => by simp [hp] at h⟩
          · intro L T w hL hpre hpost hG
            obtain ⟨h1, h2, h3⟩ := hG
            have hp := hpost 15 _ rfl rfl
            have hsz := h1.size
            refine .inl ⟨rfl, fun a K hK => ?_⟩
            simp only [execOp]
            go_simp
            refine hK (.pointer (some ⟨w.heap.size, 0, none⟩)) _ ⟨bw_al h1 (by omega) _, fun h => by simpa using h2 (by simpa using h), fun _ => ⟨w.heap.size, by simp, by omega, fun _ => Blk.mk_ w rfl rfl, fun h => by simp [hp] at h⟩⟩
          · intro L T w hL hpre hpost hG
            obtain ⟨h1, h2, h3⟩ := hG
            have t45 := h2 (hpre 13 rfl rfl)
            obtain ⟨g9, x1, x2, x3, x4⟩ := h3 (hpre 14 rfl rfl)
            have hb9 := x3 hL
            refine .inl ⟨rfl, fun a K hK => ?_⟩
            refine upon_store_blk 27 (.tmp 9) (.tmp 45) rfl x1 t45 hb9 (bs_one _) (by rw [bs_len, bs_len, block_len, List.length_replicate]) (n := 64) (by kernel_rfl) (by rw [bs_len, block_len]) fun w' hbn hon => hK undef _ ⟨hon.below h1 x2, fun _ => by simpa using t45, fun _ => ⟨g9, by simpa using x1, x2, fun h => by simp at h, fun _ => hbn⟩⟩
        case hend =>
          intro L T w9 hall hG
          obtain ⟨h1, h2, h3⟩ := hG
          obtain ⟨g9, x1, x2, x3, x4⟩ := h3 (hall 14 (by decide) (by kernel_rfl))
          have hb9 := x4 (hall 15 (by decide) (by kernel_rfl))
          simp only [fillT, fillP, List.foldl_cons, List.foldl_nil, Act.put, x1]
          obtain ⟨hq, hq2, hcq, hz⟩ := HQ.out ()
          have hblk := HI.out.st.blk.keep h1 hgs
          have hout := HI.out.out.keep h1 hgos
          have n1 : g ≠ g9 := by omega
          have n2 : go ≠ g9 := by omega
          have n3 := HI.out.ne
          have n4 := Ne.symm n1
          have n5 := Ne.symm n3
          have n6 := Ne.symm n2
          have n7 : bd ≠ g := hdv (by omega) bd od xs.length cap rfl
          have hbdl : bd < w.heap.size := World.block_lt_of_cell? w _ (HC.out k hlt')
          have hnew := HI.out.new
          have n8 : bd ≠ go := by omega
          have m44 : w9.cell? ⟨g, 44, none⟩ = some (.int .u64 cq) := (h1.cell (p := ⟨g, 44, none⟩) hgs).trans c44
          have m45 : w9.cell? ⟨g, 45, none⟩ = some (.slice A' 0 cap') := (h1.cell (p := ⟨g, 45, none⟩) hgs).trans c45
          have mf44 := hblk.free 44
          have mf45 := hblk.free 45
          have mfo := hout.free k
          have mco : w9.cell? ⟨go, k, none⟩ = some (.int .u8 0) := (h1.cell (p := ⟨go, k, none⟩) hgos).trans co
          have mcd : w9.cell? ⟨bd, od + k, none⟩ = some (.int .u8 x) := (h1.cell (p := ⟨bd, od + k, none⟩) (by have := World.block_lt_of_cell? wr _ cd; rw [← hS]; exact this)).trans cd
          obtain ⟨y, hy⟩ : ∃ y, ksB key nonce c (pos + k) = y := ⟨_, rfl⟩
          have m9 : w9.cell? ⟨g9, 0, none⟩ = some (.int .u8 y) := by
            rw [hb9.get, bs, List.getElem?_map, ← hy, ksB, show (pos + k) / 64 = q by omega, show (pos + k) % 64 = 0 by omega, hcq, List.getD_eq_getElem?_getD, List.getElem?_eq_getElem (by rw [block_len]; omega)]
            rfl
          have HY := Lib.hid (fun _ : Unit => hy)
          have HB9 := Lib.hid hb9
          have HBL := Lib.hid hblk
          have HO := Lib.hid hout
          have HH := Lib.hid h1
          have HZ := Lib.hid (fun _ : Unit => (⟨hq, hq2, hcq, hz⟩ : pos + k = 64 * q ∧ (pos + k + 63) / 64 = q ∧ c + (q : Int) = cq ∧ left64 (pos + k) = 0))
          clear h2 h3 x1 x3 x4 hall hy hb9 hblk hout h1 hq hq2 hcq hz c44 c45 co cd L
          go_wp2_with fail
          obtain ⟨hq, hq2, hcq, hz⟩ := HZ.out ()
          refine ⟨⟨k + 1, .slice (some ⟨g9, 1, none⟩) 63 63, by omega, by simp, ?_⟩, by simp [intOf]; omega⟩
          have l1 : left64 (pos + (k + 1)) = 63 := by unfold left64; omega
          have l2 : (pos + (k + 1) + 63) / 64 = q + 1 := by omega
          have hb2 : Blk ((w9.setCell ⟨g, 45, none⟩ (.slice (some ⟨g9, 0, none⟩) 64 64)).setCell ⟨g, 44, none⟩ (.int .u64 (cq + 1))) g (streamC key nonce (c + ((pos + (k + 1) + 63) / 64 : Nat)) (.slice (some ⟨g9, 0, none⟩) 64 64) true) 73 := by
            have h := (HBL.out.set 45 (.slice (some ⟨g9, 0, none⟩) 64 64)).set 44 (.int .u64 (cq + 1))
            rw [streamC_set _ _ _ _ _ _ hk hn, streamC_set44 _ _ _ _ _ _ hk hn] at h
            rw [l2, show c + ((q + 1 : Nat) : Int) = cq + 1 by omega]
            exact h
          have hg9 : g9 < w9.heap.size := HB9.out.lt
          have hst := XInv.step (B := w.heap.size) (rest2 := .slice (some ⟨g9, 1, none⟩) 63 63) hlt' hk hn
            (((HI.out.tu.trans (Turns.of_below (by rw [hS]; exact HH.out))).trans (Turns.set _ _ _ _ rfl)).trans (Turns.set _ _ _ _ rfl)) hb2 ((HO.out.other (a := ⟨g, 45, none⟩) n3 _).other (a := ⟨g, 44, none⟩) n3 _) HI.out.new n3
            (((HI.out.tab.keep HH.out (by have := HI.out.tab.lt; omega)).other (by show 0 ≠ g; omega) _).other (by show 0 ≠ g; omega) _) HI.out.g0 ?_ ?_
          · rw [HX.out (), HY.out ()] at hst
            exact hst
          · rw [l1]
            have hb9 := (HB9.out.other (a := ⟨g, 45, none⟩) n4 (.slice (some ⟨g9, 0, none⟩) 64 64)).other (a := ⟨g, 44, none⟩) n4 (.int .u64 (cq + 1))
            refine ⟨some ⟨g9, 1, none⟩, 63, by rw [bs_len, ksL_len], by rw [bs_len, ksL_len]; omega, by unfold maxLen; omega, (fun h => by cases h), .inr ⟨g9, 1, rfl, fun j hj => ?_⟩⟩
            rw [bs_len, ksL_len] at hj
            rw [hb9.get, bs, List.getElem?_map]
            have e1 : (pos + (k + 1) + j) / 64 = q := by omega
            have e2 : (pos + (k + 1) + j) % 64 = 1 + j := by omega
            rw [List.getElem?_eq_getElem (by rw [block_len]; omega)]
            simp only [bs, ksL, List.getElem_map, List.getElem_range, ksB, e1, e2, hcq, List.getD_eq_getElem?_getD, Option.map_some]
            rw [List.getElem?_eq_getElem (by rw [block_len]; omega)]
            rfl
          · intro b' o' n' k' h
            cases h
            exact ⟨n4, by simpa [World.setCell] using hg9, n6⟩
      · obtain ⟨r, hr⟩ : ∃ r, left64 (pos + k) = r + 1 := ⟨left64 (pos + k) - 1, by omega⟩
        rw [hr] at hr' hrc1
        obtain ⟨b, o, rfl, hrb⟩ : ∃ b o, A' = some ⟨b, o, none⟩ ∧ ∀ j, j < r + 1 → wr.cell? ⟨b, o + j, none⟩ = some (.int .u8 (ksB key nonce c (pos + k + j))) := by
          rcases hr3 with h | ⟨b, o, hA, h⟩
          · have : (bs (ksL key nonce c (pos + k) (left64 (pos + k)))).length = 0 := by rw [h]; rfl
            rw [bs_len, ksL_len] at this
            omega
          · refine ⟨b, o, hA, fun j hj => ?_⟩
            rw [h j (by rw [bs_len, ksL_len, hr]; exact hj)]
            simp [bs, ksL]
        subst hr'
        have cb : wr.cell? ⟨b, o, none⟩ = some (.int .u8 (ksB key nonce c (pos + k))) := hrb 0 (by omega)
        have hbf := inv.st.far b o _ _ rfl
        have hbo := inv.far b o _ _ rfl
        have hnx : (pos + (k + 1) + 63) / 64 = (pos + k + 63) / 64 := by unfold left64 at hz; omega
        have hl' : left64 (pos + (k + 1)) = r := by unfold left64 at hz hr ⊢; omega
        obtain ⟨y, hy⟩ : ∃ y, ksB key nonce c (pos + k) = y := ⟨_, rfl⟩
        rw [hy] at cb
        unfold maxLen at hrc2
        have HR := Lib.hid (fun _ : Unit => (⟨hr, hl', hnx⟩ : left64 (pos + k) = r + 1 ∧ left64 (pos + (k + 1)) = r ∧ (pos + (k + 1) + 63) / 64 = (pos + k + 63) / 64))
        have HB := Lib.hid (fun _ : Unit => hrb)
        have HX := Lib.hid (fun _ : Unit => hx)
        have HY := Lib.hid (fun _ : Unit => hy)
        have HC := Lib.hid hcd
        have HI := Lib.hid inv
        clear hr hl' hnx hrb hx hy hcd inv h3 hr3 q1 q2 q3 hz c44 f44 hr0
        go_wp2_with fail
        obtain ⟨e1, e2, e3⟩ := HR.out ()
        have hlt2 := hbf.2
        refine ⟨⟨k + 1, .slice (if cap' = 1 then some ⟨b, o, none⟩ else some ⟨b, o + 1, none⟩) r (cap' - 1), by omega, by simp, ?_⟩, by simp [intOf]; omega⟩
        have hst := XInv.step (B := w.heap.size) (rest2 := .slice (if cap' = 1 then some ⟨b, o, none⟩ else some ⟨b, o + 1, none⟩) r (cap' - 1)) hlt' hk hn HI.out.tu (by rw [e3, Nat.add_assoc]; exact HI.out.st.blk) HI.out.out HI.out.new HI.out.ne HI.out.tab HI.out.g0 ?_ ?_
        · rw [HX.out (), HY.out ()] at hst
          exact hst
        · rw [e2]
          have hb := HB.out ()
          refine ⟨if cap' = 1 then some ⟨b, o, none⟩ else some ⟨b, o + 1, none⟩, cap' - 1, by rw [bs_len, ksL_len], by rw [bs_len, ksL_len]; omega, by unfold maxLen; omega, fun h => ?_, ?_⟩
          · by_cases h1 : cap' = 1
            · rw [if_pos h1] at h; cases h
            · rw [if_neg h1] at h; cases h
          by_cases hr1 : r = 0
          · subst hr1
            exact .inl rfl
          · refine .inr ⟨b, o + 1, by rw [if_neg (by omega)], fun j hj => ?_⟩
            rw [bs_len, ksL_len] at hj
            rw [show o + 1 + j = o + (j + 1) by omega, hb (j + 1) (by omega)]
            simp [bs, ksL]
            congr 1
            omega
        · intro b' o' n' k' h
          have : b' = b := by
            by_cases h1 : cap' = 1
            · rw [if_pos h1] at h; cases h; rfl
            · rw [if_neg h1] at h; cases h; rfl
          subst this
          exact ⟨hbf.1, hbf.2, hbo⟩
    · obtain rfl : k = xs.length := by omega
      go_wp2_with fail
      all_goals go_ret2
      refine ⟨go, rest', rfl, hgo1, ?_, inv.st, inv.far, inv.tu⟩
      have := inv.out
      rwa [Nat.sub_self, List.replicate_zero, List.append_nil] at this
end Go.Proofs.YtmjjnaaiakchhaaDoor
end

section
/-
  chacha.Xor; the reference's Bytes and Xor.
-/
namespace Go.Proofs.YtmjjnaaiakchhaaDoor
open Go.RowKit

/-- How many bytes there are from a counter on. -/
def room (c : Int) : Int := (4294967296 - c) * 64
def xorAll (key nonce : List Int) (c : Int) (xs : List Int) : List Int := if (xs.length : Int) ≤ room c then xorL key nonce c 0 xs xs.length else []

theorem Rd.lt {w : World} {v : Value} {xs : List Value} (h : Rd w v xs) (hl : 0 < xs.length) : ∀ b o n k, v = .slice (some ⟨b, o, none⟩) n k → b < w.heap.size := by
  intro b o n k hv
  obtain ⟨A, c, rfl, _, _, _, h3⟩ := h
  cases hv
  rcases h3 with h3 | ⟨b', o', hA, h3⟩
  · rw [h3] at hl; simp at hl
  · cases hA
    exact World.block_lt_of_cell? w _ (h3 0 hl)

/-- chacha.Xor: the answer, in new memory. -/
def XorRes (key nonce : List Int) (c : Int) (xs : List Int) (w : World) (e : Ending) (w' : World) : Prop :=
  ∃ v, e = .returned (.tuple #[v, .bool (decide ((xs.length : Int) ≤ room c))]) ∧ Rd w' v (bs (xorAll key nonce c xs)) ∧ Below w.heap.size w w' ∧ (∀ b o n k, v = .slice (some ⟨b, o, none⟩) n k → w.heap.size ≤ b) ∧ ((xs.length : Int) ≤ room c → w'.ownsRow w.heap.size 5 1 v xs.length (bs (xorAll key nonce c xs)))

set_option maxRecDepth 100000 in
set_option maxHeartbeats 2000000 in
theorem chxor_any (w : World) (key nonce : List Int) (c : Int) (v : Value) (xs : List Int) (hk : key.length = 32) (hn : nonce.length = 12) (hkb : IsB key) (hnb : IsB nonce) (hc : 0 ≤ c ∧ c < 4294967296)
    (hd : Rd w v (bs xs)) (hxs : IsB xs) (ht : Tab w) (hlen : xs.length ≤ 4294967296) :
    Calls Tryd.prog 23 #[.agg (bs key).toArray, .int .u32 c, .agg (bs nonce).toArray, v] w (XorRes key nonce c xs w) := by
  have HK := Lib.hid hk
  have HN := Lib.hid hn
  have HKB := Lib.hid hkb
  have HNB := Lib.hid hnb
  clear hk hn hkb hnb
  obtain ⟨B, hB⟩ : ∃ B, w.heap.size = B := ⟨_, rfl⟩
  go_enter Tryd.func23, Tryd.ntmps23
  go_upto_region 1 with fail
  have b0 : Blk ((w.alloc (.cells (bs key).toArray 22)).alloc (.cells (bs nonce).toArray 24)) B (bs key) 22 := (Blk.mk_ _ hB.symm rfl).al _
  have b1 : Blk ((w.alloc (.cells (bs key).toArray 22)).alloc (.cells (bs nonce).toArray 24)) (B + 1) (bs nonce) 24 := Blk.mk_ _ (by simp [hB]) rfl
  have bb : Below B w ((w.alloc (.cells (bs key).toArray 22)).alloc (.cells (bs nonce).toArray 24)) := bw_al (bw_al (Below.refl _ _) (by omega) _) (by simp; omega) _
  generalize ((w.alloc (.cells (bs key).toArray 22)).alloc (.cells (bs nonce).toArray 24)) = w1 at *
  have hBw := b0.lt
  by_cases hle : (xs.length : Int) ≤ room c
  · go_wp2_with (first
      | (refine wp_load_blk rfl 22 (.tmp 4) rfl rfl b0 Tryd.underlying22 rfl (n := 32) (by kernel_rfl) (by rw [bs_len, HK.out]) ?_)
      | (refine wp_load_blk rfl 24 (.tmp 6) rfl rfl b1 Tryd.underlying24 rfl (n := 12) (by kernel_rfl) (by rw [bs_len, HN.out]) ?_)
      | (go_at_call 19; refine (newstream_any w1 key nonce c HK.out HN.out hc).mono ?_; rintro e w2 ⟨g, rfl, hg, hst, hb2⟩)
      | (go_at_call 20; refine (sxor_any _ g key nonce c 0 _ v xs HK.out HN.out HKB.out HNB.out hst hc (by unfold room at hle; omega) ((hd.stay bb (by omega)).stay hb2 (Nat.le_refl _)) hxs (fun h0 b o n k hv => by have := (Rd.lt hd (by rw [bs_len]; exact h0)) b o n k hv; omega) (by omega) ((ht.keep bb (by have := ht.lt; omega)).stay hb2) hlen (by unfold room at hle; omega)).mono ?_; rintro e w3 ⟨o, rest', rfl, ho, hbo, hst3, hne, htu⟩))
    all_goals go_ret2
    refine ⟨_, by rw [decide_eq_true hle]; rfl, ?_, ?_, ?_, fun _ => ?_⟩
    · rw [xorAll, if_pos hle]
      have := Rd.of_blk hbo (by rw [bs_len, xorL_len]; omega)
      rwa [bs_len, xorL_len] at this
    · rw [hB]
      exact Turns.below (bw_then bb hb2 (by omega)) htu (by have := hb2.size; omega) (fun j hj => by omega)
    · intro b' o' n' k' h
      cases h
      have := hb2.size
      omega
    · rw [xorAll, if_pos hle]
      have hl : (bs (xorL key nonce c 0 xs xs.length)).length = xs.length := by rw [bs_len, xorL_len]
      exact ⟨by rw [hl, Nat.mul_one], .inr ⟨o, xs.length, (bs (xorL key nonce c 0 xs xs.length)).toArray, rfl, by have := hb2.size; omega, hbo, Nat.le_refl _, by unfold maxLen; omega, by simp [hl], List.take_of_length_le (by rw [hl, Nat.mul_one]; exact Nat.le_refl _)⟩⟩
  · go_wp2_with (first
      | (refine wp_load_blk rfl 22 (.tmp 4) rfl rfl b0 Tryd.underlying22 rfl (n := 32) (by kernel_rfl) (by rw [bs_len, HK.out]) ?_)
      | (refine wp_load_blk rfl 24 (.tmp 6) rfl rfl b1 Tryd.underlying24 rfl (n := 12) (by kernel_rfl) (by rw [bs_len, HN.out]) ?_)
      | (go_at_call 19; refine (newstream_any w1 key nonce c HK.out HN.out hc).mono ?_; rintro e w2 ⟨g, rfl, hg, hst, hb2⟩)
      | (go_at_call 20; refine (sxor_long _ g key nonce c 0 _ v xs HK.out HN.out hst hc (by omega) ((hd.stay bb (by omega)).stay hb2 (Nat.le_refl _)) (by unfold room at hle; omega)).mono ?_; rintro e w3 ⟨rfl, hb3⟩))
    all_goals go_ret2
    refine ⟨_, by rw [decide_eq_false (by omega)]; rfl, ?_, ?_, ?_, fun h => by omega⟩
    · rw [xorAll, if_neg (by omega)]
      exact Rd.nil _
    · rw [hB]
      exact bw_then (bw_then bb hb2 (by omega)) hb3 (by have := hb2.size; omega)
    · intro b' o' n' k' h
      cases h

theorem atV_set (key nonce : List Int) (c c' : Int) (hk : key.length = 32) : (atV key c nonce).set 32 (.int .u32 c') = atV key c' nonce := by
  unfold atV
  have h : (bs key).length = 32 := by rw [bs_len, hk]
  rw [List.set_append_right _ _ (by omega), h]
  rfl
theorem atV_one (key nonce : List Int) (c : Int) : ∀ y ∈ atV key c nonce, y.oneCell' = true := by
  intro y hy
  simp only [atV, bs, List.mem_append, List.mem_cons, List.mem_map] at hy
  rcases hy with ⟨x, _, rfl⟩ | rfl | ⟨x, _, rfl⟩ <;> rfl
theorem Rd.take {w : World} {A : Option Addr} {m c : Nat} {xs : List Value} (h : Rd w (.slice A m c) xs) (n : Nat) (hn : n ≤ xs.length) : Rd w (.slice A n c) (xs.take n) := by
  obtain ⟨A', c', hv, h1, h2, h0, h3⟩ := h
  cases hv
  refine ⟨A, c, by rw [List.length_take, Nat.min_eq_left hn], by rw [List.length_take]; omega, h2, h0, ?_⟩
  rcases h3 with rfl | ⟨b, o, rfl, h3⟩
  · exact .inl (by simp)
  · refine .inr ⟨b, o, rfl, fun j hj => ?_⟩
    rw [List.length_take] at hj
    rw [h3 j (by omega), List.getElem_take]

theorem ksL_take (key nonce : List Int) (c : Int) (a n m : Nat) (h : n ≤ m) : (ksL key nonce c a m).take n = ksL key nonce c a n := by
  obtain ⟨d, rfl⟩ : ∃ d, m = n + d := ⟨m - n, by omega⟩
  rw [ksL_append, List.take_append_of_le_length (by rw [ksL_len]; exact Nat.le_refl _), List.take_of_length_le (by rw [ksL_len]; exact Nat.le_refl _)]
def ksAll (key nonce : List Int) (c : Int) (n : Nat) : List Int := if (n : Int) ≤ room c then ksL key nonce c 0 n else []
def BytesRes (key nonce : List Int) (c : Int) (n : Nat) (w : World) (e : Ending) (w' : World) : Prop :=
  ∃ v, e = .returned (.tuple #[v, .bool (decide ((n : Int) ≤ room c))]) ∧ Rd w' v (bs (ksAll key nonce c n)) ∧ Below w.heap.size w w'

structure BInv (B : Nat) (w0 w1 wr : World) (key nonce : List Int) (c : Int) (k : Nat) (v : Value) : Prop where
  own : wr.ownsRow (B + 1) 5 1 v (64 * k) (bs (ksL key nonce c 0 (64 * k)))
  b : Below (B + 1) w1 wr
  x : Blk wr B (atV key c nonce) 26

set_option maxRecDepth 100000 in
set_option maxHeartbeats 2000000 in
theorem bytes02_any (w : World) (key nonce : List Int) (c : Int) (n : Nat) (hk : key.length = 32) (hn : nonce.length = 12) (hkb : IsB key) (hnb : IsB nonce) (hc : 0 ≤ c ∧ c < 4294967296) (hlen : n ≤ 274877906944) :
    Calls Tryd.prog 21 #[.agg (atV key c nonce).toArray, .int .i64 n] w (BytesRes key nonce c n w) := by
  have HA := Lib.hid (fun c => show (atV key c nonce).length = 45 by rw [atV_len, hk, hn])
  have HK := Lib.hid hk
  have HC := Lib.hid (fun c w => blockr_any key nonce c w hk hn hkb hnb)
  clear hk hn hkb hnb
  obtain ⟨B, hB⟩ : ∃ B, w.heap.size = B := ⟨_, rfl⟩
  obtain ⟨q, hq⟩ : ∃ q, (n + 63) / 64 = q := ⟨_, rfl⟩
  have hq2 : ((n : Int) + 63) / 64 = (q : Int) := by omega
  have hq3 : q ≤ 4294967297 := by omega
  have HQ := Lib.hid hq
  clear hq
  go_enter Tryd.func21, Tryd.ntmps21
  go_upto_region 1 with fail
  have b1 : Blk (w.alloc (.cells (atV key c nonce).toArray 26)) B (atV key c nonce) 26 := Blk.mk_ _ hB.symm rfl
  have bb : Below B w (w.alloc (.cells (atV key c nonce).toArray 26)) := bw_al (Below.refl _ _) (by omega) _
  generalize w.alloc (.cells (atV key c nonce).toArray 26) = w1 at *
  have c0 := b1.at_ 32 (atV_c key c nonce HK.out)
  have hBw := b1.lt
  by_cases hle : (q : Int) ≤ 4294967296 - c
  · have hr : (n : Int) ≤ room c := by have := HQ.out; unfold room; omega
    have HR := Lib.hid hr
    clear hr
    go_upto_region 5 with fail
    go_wp2_with fail
    simp only [hq2]
    clear c0
    go_loopw [7, 8] (fun v i wr => ∃ k : Nat, k ≤ q ∧ i = .int .i64 k ∧ BInv B w w1 wr key nonce c k v) (fun _ i _ => q - (intOf i).toNat)
    case atStart => exact ⟨0, Nat.zero_le _, rfl, World.ownsRow_nil _ _ _ _, Below.refl _ _, b1⟩
    case round =>
      obtain ⟨k, hkq, rfl, inv⟩ := hrel
      by_cases hlt : k < q
      · have c0 := inv.x.at_ 32 (atV_c key c nonce HK.out)
        go_upto_region 9 with (first
          | (refine wp_load_blk rfl 26 (.tmp 2) rfl rfl inv.x Tryd.underlying26 rfl (n := 45) (by kernel_rfl) (HA.out c) ?_)
          | (refine wp_store_blk rfl 26 (.tmp 9) (.tmp 25) rfl rfl rfl (cs := atV (List.replicate 32 0) 0 (List.replicate 12 0)) (Blk.mk_ _ rfl rfl) (atV_one _ _ _) (by rw [HA.out]; rfl) (n := 45) (by kernel_rfl) (HA.out c) ?_; intro w2 hb2 ho2))
        obtain ⟨g9, hg9⟩ : ∃ g9, wr.heap.size = g9 := ⟨_, rfl⟩
        have hBg : B < g9 := by rw [← hg9]; exact inv.x.lt
        rw [hg9] at hb2 ho2
        simp only [hg9]
        have d0 : Blk w2 B (atV key c nonce) 26 := (inv.x.al _).only ho2 (by omega)
        have e0 := d0.at_ 32 (atV_c key c nonce HK.out)
        have e1 := hb2.free 32
        have e2 := hb2.at_ 32 (atV_c key c nonce HK.out)
        obtain ⟨ck, hck⟩ : ∃ ck, c + (k : Int) = ck := ⟨_, rfl⟩
        have hck2 : 0 ≤ ck ∧ ck < 4294967296 := by omega
        have hb3 : Blk (w2.setCell ⟨g9, 32, none⟩ (.int .u32 ck)) g9 (atV key ck nonce) 26 := by
          have := hb2.set 32 (.int .u32 ck)
          rwa [atV_set key nonce c ck HK.out] at this
        have HB3 := Lib.hid hb3
        have HINV := Lib.hid inv
        have HOL := Lib.hid ((Only.set w2 g9 32 (.int .u32 ck)).below (ho2.below (bw_al (Below.refl g9 wr) (Nat.le_of_eq hg9.symm) _) (Nat.le_refl _)) (Nat.le_refl _))
        have HCK := Lib.hid (fun _ : Unit => hck)
        have hw : IntKind.u32.wrap (c + IntKind.u32.wrap (k : Int)) = ck := by rw [IntKind.wrap_u32, IntKind.wrap_u32]; omega
        clear hb3 inv ho2 c0
        go_upto_region 10 with fail
        generalize w2.setCell ⟨g9, 32, none⟩ (.int .u32 ck) = w3 at *
        have hs3 : g9 < w3.heap.size := HB3.out.lt
        go_wp2_with (first
          | (refine wp_load_blk rfl 26 (.tmp 9) rfl rfl HB3.out Tryd.underlying26 rfl (n := 45) (by kernel_rfl) (HA.out ck) ?_)
          | (go_at_call 17; refine (HC.out ck _).mono ?_; rintro e w4 ⟨vb, rfl, hb4, hw4⟩)
          | (at_builtin; refine wp_app (.tmp 32) (.tmp 34) 30 rfl rfl 5 (.int .u8 0) 1 Tryd.underlying30 info5 rfl (B + 1) rfl (ownsRow_keep (ownsRow_keep HINV.out.own HOL.out (Nat.le_of_eq hg9)) hb4 (Nat.le_refl _)) rfl (Rd.of_own hw4) (bs_one _) (by decide) (by rw [bs_len, block_len]; omega) (by have := hb4.size; omega) ?_; intro v5 w5 hown5 hgr5 hb5))
        go_roundw
        case measure => simp [intOf]; omega
        refine ⟨k + 1, by omega, by go_num, ?_, ?_, ?_⟩
        · · have e : ksL key nonce c 0 (64 * (k + 1)) = ksL key nonce c 0 (64 * k) ++ block key ck nonce := by
              rw [show 64 * (k + 1) = 64 * k + 64 by omega, ksL_append, Nat.zero_add, ksL_block _ _ _ _ (block_len _ _ _), HCK.out ()]
            rw [e, bs_append, show 64 * (k + 1) = 64 * k + (bs (block key ck nonce)).length by rw [bs_len, block_len]; omega]
            exact hown5
        · · exact ((HINV.out.b.trans (HOL.out.mono (by omega))).trans (hb4.mono (by omega))).trans hb5
        · · exact ((((HINV.out.x.keep HOL.out (by omega)).stay hb4)).keep hb5 (by omega))
      · obtain rfl : k = q := by omega
        have hrd := Rd.of_own inv.own
        have hkl : (bs (ksL key nonce c 0 (64 * k))).length = 64 * k := by rw [bs_len, ksL_len]
        obtain ⟨A, cc, rfl, h1, h2, _, _⟩ := id hrd
        rw [hkl] at h1 hrd
        have hnq : n ≤ 64 * k := by have := HQ.out; omega
        have hrt := hrd.take n (by rw [hkl]; exact hnq)
        have HRT := Lib.hid hrt
        have HB := Lib.hid inv.b
        unfold maxLen at h2
        clear hrt hrd inv
        rw [hkl]
        have hni : (n : Int) ≤ (cc : Int) := by omega
        go_wp2_with fail
        all_goals go_ret2
        refine ⟨_, by rw [decide_eq_true HR.out]; rfl, ?_, ?_⟩
        · rw [ksAll, if_pos HR.out]
          have := HRT.out
          rw [bs, ← List.map_take, ksL_take _ _ _ _ _ _ hnq] at this
          exact this
        · rw [hB]
          exact bb.trans ⟨HB.out.os, HB.out.tape, HB.out.output, HB.out.size, fun j hj => HB.out.block j (by omega)⟩
  · have hr : ¬ (n : Int) ≤ room c := by have := HQ.out; unfold room; omega
    have HR := Lib.hid (fun _ : Unit => hr)
    clear hr
    go_wp2_with fail
    go_ret2
    refine ⟨_, by rw [decide_eq_false (by have := HR.out (); omega)]; rfl, ?_, ?_⟩
    · rw [ksAll, if_neg (by have := HR.out (); omega)]
      exact Rd.nil _
    · rw [hB]
      exact bb

/-- The reference's Xor: the same answer. -/
def XorResR (key nonce : List Int) (c : Int) (xs : List Int) (w : World) (e : Ending) (w' : World) : Prop :=
  ∃ v, e = .returned (.tuple #[v, .bool (decide ((xs.length : Int) ≤ room c))]) ∧ Rd w' v (bs (xorAll key nonce c xs)) ∧ Below w.heap.size w w'
theorem ksL_get (key nonce : List Int) (c : Int) (a n i : Nat) (h : i < n) : (bs (ksL key nonce c a n))[i]? = some (.int .u8 (ksB key nonce c (a + i))) := by
  simp [bs, ksL, h]
theorem Rd.cellAt {w : World} {v : Value} {xs : List Value} (h : Rd w v xs) (hl : 0 < xs.length) : ∃ b o c, v = .slice (some ⟨b, o, none⟩) xs.length c ∧ xs.length ≤ c ∧ c ≤ 9223372036854775807 ∧ ∀ j x, xs[j]? = some x → w.cell? ⟨b, o + j, none⟩ = some x := by
  obtain ⟨A, c, rfl, h1, h2, _, h3⟩ := h
  rcases h3 with h3 | ⟨b, o, rfl, h3⟩
  · rw [h3] at hl; simp at hl
  · refine ⟨b, o, c, rfl, h1, by unfold maxLen at h2; omega, fun j x hj => ?_⟩
    obtain ⟨hlt, rfl⟩ := List.getElem?_eq_some_iff.1 hj
    exact h3 j hlt

set_option maxRecDepth 100000 in
set_option maxHeartbeats 2000000 in
theorem xor02_any (w : World) (key nonce : List Int) (c : Int) (v : Value) (xs : List Int) (hk : key.length = 32) (hn : nonce.length = 12) (hkb : IsB key) (hnb : IsB nonce) (hc : 0 ≤ c ∧ c < 4294967296) (hd : Rd w v (bs xs)) (hlen : xs.length ≤ 274877906944) :
    Calls Tryd.prog 25 #[.agg (atV key c nonce).toArray, v] w (XorResR key nonce c xs w) := by
  have HA := Lib.hid (show (atV key c nonce).length = 45 by rw [atV_len, hk, hn])
  have HB := Lib.hid (fun w => bytes02_any w key nonce c xs.length hk hn hkb hnb hc hlen)
  have hd0 := Lib.hid hd
  obtain ⟨A, cap, rfl, hc1, hc2, h0, h3⟩ := hd
  rw [bs_len] at hd0 hc1 ⊢
  unfold maxLen at hc2
  have H3 := Lib.hid h3
  clear hk hn hkb hnb h3 h0
  obtain ⟨B, hB⟩ : ∃ B, w.heap.size = B := ⟨_, rfl⟩
  obtain ⟨i, hi, hz0, hz1, hz2⟩ := info_parts info5
  go_enter Tryd.func25, Tryd.ntmps25
  go_upto_region 1 with fail
  have b1 : Blk (w.alloc (.cells (atV key c nonce).toArray 26)) B (atV key c nonce) 26 := Blk.mk_ _ hB.symm rfl
  have bb : Below B w (w.alloc (.cells (atV key c nonce).toArray 26)) := bw_al (Below.refl _ _) (by omega) _
  generalize w.alloc (.cells (atV key c nonce).toArray 26) = w1 at *
  have hBw := b1.lt
  go_upto_region 2 with (first
    | (refine wp_load_blk rfl 26 (.tmp 2) rfl rfl b1 Tryd.underlying26 rfl (n := 45) (by kernel_rfl) HA.out ?_)
    | (go_at_call 21; refine (HB.out _).mono ?_; rintro e w2 ⟨vk, rfl, hrk, hb2⟩))
  by_cases hle : (xs.length : Int) ≤ room c
  · have hks : ksAll key nonce c xs.length = ksL key nonce c 0 xs.length := by rw [ksAll, if_pos hle]
    rw [hks] at hrk
    have hdt : decide ((xs.length : Int) ≤ room c) = true := decide_eq_true hle
    simp only [hdt]
    have HLE := Lib.hid hle
    clear hks hle
    have hbB : Below B w w2 := bw_then bb hb2 (by omega)
    go_upto_region 5 with (refine wpList_make_full w2 rfl (.tmp 20) (.tmp 20) 30 rfl w2.heap.size 5 i _ 1 Tryd.underlying30 hi hz0 hz1 .i64 .i64 _ _ xs.length rfl rfl rfl rfl (by rw [hz2]; omega) (by unfold maxLen; omega) (Nat.le_refl _) ?_; intro w3 hown hgrow)
    obtain ⟨go, hgo⟩ : ∃ go, w2.heap.size = go := ⟨_, rfl⟩
    have hb3 : Below go w2 w3 := (Below.refl go w2).grown hgrow (Nat.le_of_eq hgo.symm) (fun k h => by cases h)
    have hout : Blk w3 go (bs (xorL key nonce c 0 xs 0 ++ List.replicate (xs.length - 0) 0)) 5 := by
      have h := blk_of_full hown
      rw [show (Value.cells (Value.int IntKind.u8 0)) = #[Value.int IntKind.u8 0] from rfl, Nat.mul_one, toList_madeCells_one, hgo] at h
      simpa [bs, xorL] using h
    have hBgo : B ≤ go := by rw [← hgo, ← hB]; exact hbB.size
    simp only [hgo]
    clear hown hgrow hb2
    have HRK := Lib.hid hrk
    clear hrk
    go_wp2_with fail
    go_loopw [9] (fun i wr => ∃ k : Nat, k ≤ xs.length ∧ i = .int .i64 k ∧ Blk wr go (bs (xorL key nonce c 0 xs k ++ List.replicate (xs.length - k) 0)) 5 ∧ Below go w2 wr) (fun i _ => xs.length - (intOf i).toNat)
    case atStart => exact ⟨0, Nat.zero_le _, rfl, hout, hb3⟩
    case round =>
      obtain ⟨k, hk, rfl, ho, hbl⟩ := hrel
      by_cases hlt : k < xs.length
      · obtain ⟨bk, ok, ck, hvk, hk1, hk2, hkc⟩ := HRK.out.cellAt (by rw [bs_len, ksL_len]; omega)
        rw [bs_len, ksL_len] at hvk hk1
        subst hvk
        obtain ⟨bd, od, cd', hvd, hd1, hd2, hdc⟩ := hd0.out.cellAt (by rw [bs_len]; omega)
        rw [bs_len] at hvd hd1
        injection hvd with q1 q2 q3
        subst q1 q3
        have h1 := hdc k _ (show (bs xs)[k]? = some (.int .u8 (xs.getD k 0)) by simp [bs, List.getD_eq_getElem?_getD, hlt])
        have hbdl : bd < w.heap.size := World.block_lt_of_cell? w _ h1
        have h2 := hkc k _ (ksL_get key nonce c 0 _ k hlt)
        have hbkl : bk < w2.heap.size := World.block_lt_of_cell? w2 _ h2
        have e1 : wr.cell? ⟨bd, od + k, none⟩ = some (.int .u8 (xs.getD k 0)) := (hbl.cell (p := ⟨bd, od + k, none⟩) (by show bd < go; omega)).trans ((hbB.cell (p := ⟨bd, od + k, none⟩) (by show bd < B; omega)).trans h1)
        have e2 : wr.cell? ⟨bk, ok + k, none⟩ = some (.int .u8 (ksB key nonce c (0 + k))) := (hbl.cell (p := ⟨bk, ok + k, none⟩) (by show bk < go; omega)).trans h2
        obtain ⟨x, hx⟩ : ∃ x, xs.getD k 0 = x := ⟨_, rfl⟩
        obtain ⟨y, hy⟩ : ∃ y, ksB key nonce c (0 + k) = y := ⟨_, rfl⟩
        rw [hx] at e1
        rw [hy] at e2
        have e3 : wr.cell? ⟨go, k, none⟩ = some (.int .u8 0) := by
          rw [ho.get, bs, List.getElem?_map, List.getElem?_append_right (by rw [xorL_len]; exact Nat.le_refl _), xorL_len, Nat.sub_self, List.getElem?_replicate, if_pos (by omega)]
          rfl
        have e4 := ho.free k
        have hs := (ho.set k (.int .u8 (bits .xor .u8 x y)))
        have HS := Lib.hid (show Blk (wr.setCell ⟨go, k, none⟩ (.int .u8 (bits .xor .u8 x y))) go (bs (xorL key nonce c 0 xs (k + 1) ++ List.replicate (xs.length - (k + 1)) 0)) 5 from by
          rw [← hx, ← hy, xor_set key nonce c 0 xs k hlt, hx, hy] at hs
          exact hs)
        have HBL := Lib.hid hbl
        clear hs h1 h2 hkc hdc hbl hx hy
        go_wp2_with fail
        go_region
        go_wp2_with fail
        go_roundw
        case rel => exact ⟨k + 1, by omega, by go_num, HS.out.d1, bw_d1 (HBL.out.setCell (Nat.le_refl _) _)⟩
        case measure => simp [intOf]; omega
      · obtain rfl : k = xs.length := by omega
        go_wp2_with fail
        all_goals go_ret2
        refine ⟨_, by rw [hdt]; rfl, ?_, ?_⟩
        · rw [xorAll, if_pos HLE.out]
          rw [Nat.sub_self, List.replicate_zero, List.append_nil] at ho
          have := Rd.of_blk ho (by rw [bs_len, xorL_len]; omega)
          rwa [bs_len, xorL_len] at this
        · rw [hB]
          exact hbB.trans (hbl.mono hBgo)
  · have hdf : decide ((xs.length : Int) ≤ room c) = false := decide_eq_false hle
    simp only [hdf]
    have HLE := Lib.hid (fun _ : Unit => hle)
    clear hle
    go_wp2_with fail
    all_goals go_ret2
    refine ⟨_, by rw [hdf]; rfl, ?_, ?_⟩
    · rw [xorAll, if_neg (by have := HLE.out (); omega)]
      exact Rd.nil _
    · rw [hB]
      exact bw_then bb hb2 (by omega)
end Go.Proofs.YtmjjnaaiakchhaaDoor
end

section
/-
  Plain facts on what is xored.
-/
namespace Go.Proofs.YtmjjnaaiakchhaaDoor
open Go.RowKit

theorem outK_isB (s was : List Int) (k : Nat) : IsB (outK s was k) := by
  induction k with
  | zero => intro y hy; simp [outK] at hy
  | succ k ih =>
    intro y hy
    rw [outK, List.mem_append] at hy
    rcases hy with hy | hy
    · exact ih y hy
    · exact lowN_isB _ _ y hy
theorem block_isB (key : List Int) (c : Int) (nonce : List Int) : IsB (block key c nonce) := outK_isB _ _ _
theorem ksB_range (key nonce : List Int) (c : Int) (i : Nat) : 0 ≤ ksB key nonce c i ∧ ksB key nonce c i ≤ 255 := (block_isB _ _ _).at_ _
theorem xor_range {x y : Int} (hx : 0 ≤ x ∧ x ≤ 255) (hy : 0 ≤ y ∧ y ≤ 255) : 0 ≤ bits .xor .u8 x y ∧ bits .xor .u8 x y ≤ 255 := by
  rw [u8_xor x y hx.1 (by omega) hy.1 (by omega)]
  have := Nat.xor_lt_two_pow (x := x.toNat) (y := y.toNat) (n := 8) (by omega) (by omega)
  omega
theorem xor_back {x y : Int} (hx : 0 ≤ x ∧ x ≤ 255) (hy : 0 ≤ y ∧ y ≤ 255) : bits .xor .u8 (bits .xor .u8 x y) y = x := by
  have h := xor_range hx hy
  rw [u8_xor _ y h.1 (by omega) hy.1 (by omega), u8_xor x y hx.1 (by omega) hy.1 (by omega), Int.toNat_natCast, Nat.xor_assoc, Nat.xor_self, Nat.xor_zero]
  omega
theorem xorL_isB (key nonce : List Int) (c : Int) (pos : Nat) {xs : List Int} (h : IsB xs) (k : Nat) : IsB (xorL key nonce c pos xs k) := by
  intro z hz
  obtain ⟨i, _, rfl⟩ := List.mem_map.1 hz
  exact xor_range (h.at_ i) (ksB_range _ _ _ _)
theorem xorAll_isB (key nonce : List Int) (c : Int) {xs : List Int} (h : IsB xs) : IsB (xorAll key nonce c xs) := by
  unfold xorAll
  split
  · exact xorL_isB _ _ _ _ h _
  · intro z hz; simp at hz
theorem xorL_get (key nonce : List Int) (c : Int) (pos : Nat) (xs : List Int) (k i : Nat) (h : i < k) : (xorL key nonce c pos xs k).getD i 0 = bits .xor .u8 (xs.getD i 0) (ksB key nonce c (pos + i)) := by
  simp [xorL, List.getD_eq_getElem?_getD, h]
/-- What is xored twice is as it was. -/
theorem xorL_back (key nonce : List Int) (c : Int) (pos : Nat) {xs : List Int} (h : IsB xs) : xorL key nonce c pos (xorL key nonce c pos xs xs.length) xs.length = xs := by
  apply List.ext_getElem (by rw [xorL_len])
  intro i h1 h2
  rw [xorL_len] at h1
  have e : (xorL key nonce c pos (xorL key nonce c pos xs xs.length) xs.length).getD i 0 = xs.getD i 0 := by
    rw [xorL_get _ _ _ _ _ _ _ h1, xorL_get _ _ _ _ _ _ _ h1, xor_back (h.at_ i) (ksB_range _ _ _ _)]
  simpa [List.getD_eq_getElem?_getD, h2, xorL_len] using e
theorem xorAll_len (key nonce : List Int) (c : Int) (xs : List Int) : (xorAll key nonce c xs).length = if (xs.length : Int) ≤ room c then xs.length else 0 := by
  unfold xorAll
  split <;> simp [xorL_len]
/-- In what pieces it comes makes no difference. -/
theorem xorL_append (key nonce : List Int) (c : Int) (pos : Nat) (xs ys : List Int) : xorL key nonce c pos (xs ++ ys) (xs ++ ys).length = xorL key nonce c pos xs xs.length ++ xorL key nonce c (pos + xs.length) ys ys.length := by
  apply List.ext_getElem (by simp [xorL_len])
  intro i h1 h2
  rw [xorL_len] at h1
  by_cases hi : i < xs.length
  · rw [List.getElem_append_left (by rw [xorL_len]; exact hi)]
    simp [xorL, List.getD_eq_getElem?_getD, List.getElem?_append_left hi]
  · rw [List.getElem_append_right (by rw [xorL_len]; omega)]
    simp only [xorL, List.getElem_map, List.getElem_range, List.length_map, List.length_range]
    rw [List.getD_eq_getElem?_getD, List.getD_eq_getElem?_getD, List.getElem?_append_right (by omega), show pos + xs.length + (i - xs.length) = pos + i by omega]

/-- A piece that there is room for, whatever was ahead: what is handed in lay there before the stream was made (world wb). -/
theorem sxor_ok (wb w : World) (g : Nat) (key nonce : List Int) (c : Int) (pos : Nat) (rest : Value) (v : Value) (xs : List Int) (hk : key.length = 32) (hn : nonce.length = 12) (hkb : IsB key) (hnb : IsB nonce) (hc : 0 ≤ c ∧ c < 4294967296)
    (hbl : Below wb.heap.size wb w) (hg : wb.heap.size ≤ g) (ht : Tab wb) (hd : Rd wb v (bs xs)) (hxs : IsB xs) (hs : StreamAt w g key nonce c pos rest) (hl : xs.length ≤ 4294967296) (hroom : ((pos + xs.length : Nat) : Int) ≤ room c) :
    Calls Tryd.prog 20 #[.pointer (some ⟨g, 0, none⟩), v] w fun e w' => ∃ o rest', e = .returned (.tuple #[.slice (some ⟨o, 0, none⟩) xs.length xs.length, .bool true]) ∧ w.heap.size ≤ o ∧ o ≠ g ∧ Blk w' o (bs (xorL key nonce c pos xs xs.length)) 5 ∧
      StreamAt w' g key nonce c (pos + xs.length) rest' ∧ Turns (fun b => b = g) w w' ∧ Below wb.heap.size wb w' := by
  have hlt := ht.lt
  have hgl := hs.blk.lt
  refine (sxor_any w g key nonce c pos rest v xs hk hn hkb hnb hs hc (by unfold room at hroom; omega) (hd.stay hbl (Nat.le_refl _)) hxs
    (fun h0 b o m k hv => by have := (Rd.lt hd (by rw [bs_len]; exact h0)) b o m k hv; omega) (by omega) (ht.stay hbl) hl (by unfold room at hroom; omega)).mono ?_
  rintro e w' ⟨o, rest', rfl, h1, h2, h3, _, h5⟩
  exact ⟨o, rest', rfl, h1, by omega, h2, h3, h5, Turns.below hbl h5 hbl.size (fun j hj => by omega)⟩

theorem sxor_nil (w : World) (v : Value) (xs : List Int) (hd : Rd w v (bs xs)) (h0 : 0 < xs.length) :
    Calls Tryd.prog 20 #[.pointer none, v] w fun e w' => e = .returned (.tuple #[.slice none 0 0, .bool false]) ∧ Below w.heap.size w w' := by
  obtain ⟨A, cap, rfl, hc1, hc2, _, _⟩ := hd
  rw [bs_len] at *
  unfold maxLen at hc2
  have h1 : (0 : Int) < (xs.length : Int) := by omega
  go_enter Tryd.func20, Tryd.ntmps20
  go_wp2_with (go_at_call 22; refine (left_nil w).mono ?_; rintro e w1 ⟨rfl, hb1⟩)
  all_goals go_ret2
  all_goals exact ⟨rfl, hb1⟩
end Go.Proofs.YtmjjnaaiakchhaaDoor
end

section
/-
  Texts filled up to a multiple of sixteen bytes, and texts one behind the other. And values of a struct that are built part by part.
-/
namespace Go.Proofs.YtmjjnaaiakchhaaDoor
open Go.RowKit

/-- append(s, make([]T, m)...) -/
theorem wp_app_zeros {P : Program} {ops : Array Oper} {rest : List Oper} {o : Oper} {a : Act} {Q : Exit → Act → World → Prop} {w : World} (s x : Operand) (t ti : TypeId) (hgd : o.guard = none)
    (ho : o.op = .call { callee := .builtin .append, args := #[s, x], argTypes := #[t, ti] }) (e : TypeId) (z : Value) (bytes : Nat) (ht : P.underlying t = some (.slice e)) {k : IntKind} (hti : P.underlying ti = some (.int k))
    (hinfo : (P.info? e).map (fun i => (i.zero, i.size, i.bytes)) = some (some z, 1, bytes)) (hzs : z.cells = #[z]) (hz1 : z.oneCell' = true) (base : Nat) {v : Value} {n : Nat} {xs : List Value} (hs : a.eval s = v) (hown : w.ownsRow base e 1 v n xs)
    {kx : IntKind} {m : Nat} (hx : a.eval x = .int kx m) (hb0 : 0 < bytes) (hbytes : (n + m) * bytes ≤ 140737488355328) (hbase : base ≤ w.heap.size)
    (h : ∀ v' w', w'.ownsRow base e 1 v' (n + m) (xs ++ List.replicate m z) → w.grownBy w' v.ownBlock → Below base w w' → wpList P ops Q rest (a.put o.dst v') w') : wpList P ops Q (o :: rest) a w :=
  wpList_plain hgd fun K hK => by
    show o.upon P a K Q ((execOp a.eval o).run P w)
    obtain ⟨i, hi, hh0, hh1, hh2⟩ := info_parts hinfo
    have hzc : (Builtin.zeroCells z.cells m).toList = List.replicate m z := by
      rw [show Builtin.zeroCells z.cells m = madeCells z.cells (m * 1) by unfold Builtin.zeroCells madeCells; rw [hzs]; rfl, hzs, Nat.mul_one, toList_madeCells_one]
    obtain ⟨v1, w1, hrun, h2, hg, _⟩ := Go.Proofs.YtmjjnaaiakchhaaDoorW.PrintWords.run_append_zeros (P := P) w base t ti o.type e i z 1 bytes ht hti hi hh0 hh1 hh2 (by rw [hzs]; rfl) (by decide) hb0 v n xs hown kx m (by rw [hzc]; intro u hu; rw [List.eq_of_mem_replicate hu]; exact hz1) hbytes hbase
    rw [hzc] at h2
    simp [execOp, ho, resolve, invoke, builtin, hs, hx, hrun, Result.andThen]
    refine hK _ _ (h v1 w1 h2 hg ((Below.refl _ _).grown hg hbase ?_))
    intro j hj
    rcases hown.2 with ⟨rfl, _⟩ | ⟨g, cap, cur, rfl, hbg, _⟩
    · cases hj
    · simp only [Value.ownBlock, Option.some.injEq] at hj
      omega

theorem both_any (w : World) (u v : Value) (xs ys : List Int) (hu : Rd w u (bs xs)) (hv : Rd w v (bs ys)) (hl : xs.length + ys.length ≤ 140737488355328) :
    Calls Tryd.prog 45 #[u, v] w fun e w' => NewB (xs ++ ys) w e w' := by
  have HV := Lib.hid hv
  have HU := Lib.hid hu
  clear hv hu
  obtain ⟨B, hB⟩ : ∃ B, w.heap.size = B := ⟨_, rfl⟩
  go_enter Tryd.func45, Tryd.ntmps45
  go_upto_region 3 with (at_builtin; refine wp_app (.tmp 6) (.tmp 7) 30 rfl rfl 5 (.int .u8 0) 1 Tryd.underlying30 info5 rfl B rfl (World.ownsRow_nil _ _ _ _) rfl HU.out (bs_one _) (by decide) (by rw [bs_len]; omega) (by omega) ?_; intro v1 w1 hown1 _ hb1)
  rw [List.nil_append, Nat.zero_add, bs_len] at hown1
  have hv1 := HV.out.stay hb1 (by omega)
  have HO := Lib.hid hown1
  have HB1 := Lib.hid hb1
  have hs1 := hb1.size
  clear hown1 hb1
  go_wp2_with (at_builtin; refine wp_app (.tmp 9) (.tmp 10) 30 rfl rfl 5 (.int .u8 0) 1 Tryd.underlying30 info5 rfl B rfl HO.out rfl hv1 (bs_one _) (by decide) (by rw [bs_len]; omega) (by omega) ?_; intro v2 w2 hown2 _ hb2)
  go_ret
  rw [← bs_append, bs_len, ← List.length_append] at hown2
  exact ⟨_, rfl, by rw [hB]; exact HB1.out.trans hb2, by rw [hB]; exact hown2⟩

/-- How much a text is filled up by. -/
def padN (n : Nat) : Nat := (16 - n % 16) % 16
def filledL (xs : List Int) : List Int := xs ++ List.replicate (padN xs.length) 0
theorem filledL_isB {xs : List Int} (h : IsB xs) : IsB (filledL xs) := fun z hz => by
  rcases List.mem_append.1 hz with hz | hz
  · exact h z hz
  · rw [List.eq_of_mem_replicate hz]; decide
theorem filledL_len (xs : List Int) : (filledL xs).length ≤ xs.length + 15 := by
  simp only [filledL, List.length_append, List.length_replicate, padN]; omega
theorem bs_zeros (m : Nat) : bs (List.replicate m 0) = List.replicate m (Value.int .u8 0) := by simp [bs]

set_option maxRecDepth 100000 in
set_option maxHeartbeats 1000000 in
theorem filled_any (w : World) (v : Value) (xs : List Int) (hr : Rd w v (bs xs)) (hl : xs.length ≤ 70368744177664) :
    Calls Tryd.prog 42 #[v] w fun e w' => NewB (filledL xs) w e w' := by
  have HR := Lib.hid hr
  obtain ⟨n, hn⟩ : ∃ n, xs.length = n := ⟨_, rfl⟩
  have hlv : ∀ w', (Builtin.len_ #[30] 3 #[v]).run Tryd.prog w' = .ok (goInt n) w' := by
    have := len_fact (P := Tryd.prog) hr (t := 30) (ty := 3) (by kernel_rfl)
    rwa [bs_len, hn] at this
  obtain ⟨m, hm⟩ : ∃ m : Nat, (16 - (n : Int) % 16) % 16 = m := ⟨((16 - (n : Int) % 16) % 16).toNat, by omega⟩
  have hmp : m = padN xs.length := by unfold padN; rw [hn]; omega
  have HM := Lib.hid (fun _ : Unit => hmp)
  have HN := Lib.hid (fun _ : Unit => hn)
  have hm15 : m ≤ 15 := by omega
  rw [hn] at hl
  clear hr hmp hn
  obtain ⟨B, hB⟩ : ∃ B, w.heap.size = B := ⟨_, rfl⟩
  go_enter Tryd.func42, Tryd.ntmps42
  have tok1 : True := trivial
  go_wp2_with (first
    | (at_builtin; have _t := tok1; refine wp_app (.const (.slice none 0 0)) (.tmp 3) 30 rfl rfl 5 (.int .u8 0) 1 Tryd.underlying30 info5 rfl B rfl (World.ownsRow_nil _ _ _ _) rfl HR.out (bs_one _) (by decide) (by rw [bs_len, HN.out ()]; omega) (by omega) ?_; intro v1 w1 hown1 _ hb1; rw [List.nil_append, Nat.zero_add, bs_len, HN.out ()] at hown1; have HO := Lib.hid hown1; have HB1 := Lib.hid hb1; have hs1 := hb1.size; clear hown1 hb1 tok1)
    | (at_builtin; refine wp_app_zeros (m := m) (kx := .i64) (.tmp 4) (.tmp 9) 30 3 rfl rfl 5 (.int .u8 0) 1 Tryd.underlying30 Tryd.underlying3 info5 rfl rfl B rfl HO.out (congrArg (Value.int .i64) hm) (by decide) (by omega) (by omega) ?_; intro v2 w2 hown2 _ hb2))
  go_ret
  rw [← bs_zeros, ← bs_append, HM.out ()] at hown2
  refine ⟨_, rfl, by rw [hB]; exact HB1.out.trans hb2, ?_⟩
  rw [hB]
  have h : (filledL xs).length = n + padN xs.length := by rw [filledL, List.length_append, List.length_replicate, HN.out ()]
  rw [h]
  exact hown2
set_option maxRecDepth 100000 in
set_option maxHeartbeats 1000000 in
theorem rfilled_any (w : World) (v : Value) (xs : List Int) (hr : Rd w v (bs xs)) (hl : xs.length ≤ 70368744177664) :
    Calls Tryd.prog 46 #[v] w fun e w' => NewB (filledL xs) w e w' := by
  have HR := Lib.hid hr
  obtain ⟨n, hn⟩ : ∃ n, xs.length = n := ⟨_, rfl⟩
  obtain ⟨p, hp⟩ : ∃ p, padN n = p := ⟨_, rfl⟩
  have hp1 : p ≤ 15 := by unfold padN at hp; omega
  have hp2 : ((n : Int) + p) % 16 = 0 := by unfold padN at hp; omega
  have hp3 : ∀ k : Nat, k < p → ((n : Int) + k) % 16 ≠ 0 := by unfold padN at hp; intro k hk; omega
  have HP := Lib.hid (fun _ : Unit => (⟨hp1, hp2, hp3⟩ : p ≤ 15 ∧ ((n : Int) + p) % 16 = 0 ∧ ∀ k : Nat, k < p → ((n : Int) + k) % 16 ≠ 0))
  have HN := Lib.hid (fun _ : Unit => hn)
  have HPP := Lib.hid (fun _ : Unit => hp)
  rw [hn] at hl
  clear hr hn hp hp2 hp3
  obtain ⟨B, hB⟩ : ∃ B, w.heap.size = B := ⟨_, rfl⟩
  go_enter Tryd.func46, Tryd.ntmps46
  go_upto_region 2 with (go_at_call 45; refine (both_any w _ _ [] xs (Rd.nil w) HR.out (by rw [HN.out ()]; simp; omega)).mono ?_; rintro e w1 ⟨v1, rfl, hb1, ho1⟩)
  rw [List.nil_append, HN.out ()] at ho1
  have HO1 := Lib.hid ho1
  have HB1 := Lib.hid hb1
  clear ho1 hb1
  go_wp2_with fail
  go_loopw [3, 4] (fun x i wr => ∃ (k : Nat) (vo : Value), k ≤ p ∧ vo = x ∧ i = .int .i64 k ∧ wr.ownsRow B 5 1 vo (n + k) (bs (xs ++ List.replicate k 0)) ∧ Below B w wr ∧ B ≤ wr.heap.size) (fun _ i _ => 16 - (intOf i).toNat)
  case atStart => exact ⟨0, v1, Nat.zero_le _, rfl, rfl, by rw [← hB]; simpa using HO1.out, by rw [← hB]; exact HB1.out, by rw [← hB]; exact HB1.out.size⟩
  case round =>
    obtain ⟨k, vo, hk, rfl, rfl, ho, hb, hs⟩ := hrel
    obtain ⟨wo, rfl⟩ : ∃ wo : World, wo = wr := ⟨_, rfl⟩
    obtain ⟨q, hq⟩ : ∃ q : Nat, ((n : Int) + k) % 16 = q := ⟨(((n : Int) + k) % 16).toNat, by omega⟩
    have hro : Rd wo vo (bs (xs ++ List.replicate k 0)) := Rd.of_own ho
    have hlv : ∀ w', (Builtin.len_ #[30] 3 #[vo]).run Tryd.prog w' = .ok (goInt ((n : Int) + k)) w' := by
      have := len_fact (P := Tryd.prog) hro (t := 30) (ty := 3) (by kernel_rfl)
      rw [bs_len, List.length_append, List.length_replicate, HN.out ()] at this
      simpa using this
    have HO := Lib.hid ho
    have HB := Lib.hid hb
    clear ho hb hro
    by_cases hlt : k < p
    · have hk16 : (k : Int) < 16 := by omega
      have hq0 : ¬ (q : Int) = 0 := by have := (HP.out ()).2.2 k hlt; omega
      go_wp2_with (at_builtin; refine wp_app (.tmp 17) (.tmp 18) 30 rfl rfl 5 (.int .u8 0) 1 Tryd.underlying30 info5 rfl B rfl (HO.out.alloc _) rfl (Rd.one _ _ _) (by intro y hy; simp at hy; subst hy; rfl) (by decide) (by simp; omega) (by simp; omega) ?_; intro v2 w2 hown2 _ hb2)
      have hbb : Below B wo w2 := (bw_al (Below.refl _ _) hs _).trans hb2
      have hz2 := hbb.size
      refine ⟨⟨k + 1, v2, by omega, rfl, by go_num, ?_, HB.out.trans hbb, by omega⟩, by simp [intOf]; omega⟩
      have e : bs (xs ++ List.replicate (k + 1) 0) = bs (xs ++ List.replicate k 0) ++ [Value.int .u8 0] := by simp [bs, List.replicate_succ']
      rw [e]
      simpa [Nat.add_assoc] using hown2
    · obtain rfl : k = p := by omega
      have hk16 : (k : Int) < 16 := by omega
      have hq0 : (q : Int) = 0 := by have := (HP.out ()).2.1; omega
      go_wp2_with fail
      all_goals go_ret
      refine ⟨_, rfl, by rw [hB]; exact HB.out, ?_⟩
      have h := HO.out
      have hpp := HPP.out ()
      have hnn := HN.out ()
      rw [hB, filledL, List.length_append, List.length_replicate, hnn, hpp]
      exact h

/-! ### Building a struct part by part -/
theorem spl_mid (a b c l : List Value) (off : Nat) (ho : off = a.length) (hl : l.length = b.length) : spl (a ++ (b ++ c)) off l = a ++ (l ++ c) := by
  subst ho
  simp only [spl, hl]
  rw [List.take_left, ← List.drop_drop, List.drop_left, List.drop_left, List.append_assoc]
theorem build_struct {P : Program} {w : World} {t : TypeId} {fs : Array Field} {pl : Array (Nat × Nat)} (hu : P.underlying t = some (.struct fs))
    (hpl : ∀ w, (Array.mapM (fun (f : Field) => do pure (f.offset, ← sizeOf f.type)) fs : Sem (Array (Nat × Nat))).run P w = .ok pl w) {zs : List Value} (hz : (P.info? t).map (·.zero) = some (some (.agg zs.toArray)))
    {parts : Array (Nat × Value)} {cs : Array Value} (hf : Instr.fill (fun x => pl[x]?) zs.toArray parts.toList = some cs) : (Instr.build t parts).run P w = .ok (.agg cs) w := by
  obtain ⟨i, hi, hz⟩ := Option.map_eq_some_iff.1 hz
  unfold Instr.build
  simp only [Sem.run_bind, zeroValue, typeInfo, run_program, Result.andThen_ok, hi, hz, Sem.run_pure, run_underlying hu, hpl, Value.cells, hf]
theorem atV_zero : (Tryd.prog.info? 26).map (·.zero) = some (some (.agg (bs (List.replicate 32 0) ++ ([Value.int .u32 0] ++ bs (List.replicate 12 0))).toArray)) := by kernel_rfl
theorem at_places : ∃ fs, Tryd.prog.underlying 26 = some (.struct fs) ∧ ∀ w, (Array.mapM (fun (f : Field) => do pure (f.offset, ← sizeOf f.type)) fs : Sem (Array (Nat × Nat))).run Tryd.prog w = .ok #[(0, 32), (32, 1), (33, 12)] w := ⟨_, Tryd.underlying26, fun w => by kernel_rfl⟩
theorem build_at0 (w : World) (key nonce : List Int) (hk : key.length = 32) (hn : nonce.length = 12) : (Instr.build 26 #[(0, .agg (bs key).toArray), (2, .agg (bs nonce).toArray)]).run Tryd.prog w = .ok (.agg (atV key 0 nonce).toArray) w := by
  obtain ⟨fs, hfs, hpl⟩ := at_places
  refine build_struct hfs hpl atV_zero ?_
  have hl0 : (bs key).length = 32 := by rw [bs_len, hk]
  have hl1 : (bs nonce).length = 12 := by rw [bs_len, hn]
  have r32 : (bs (List.replicate 32 0)).length = 32 := by rw [bs_len, List.length_replicate]
  have r12 : (bs (List.replicate 12 0)).length = 12 := by rw [bs_len, List.length_replicate]
  generalize bs (List.replicate 32 0) = z32 at *
  generalize bs (List.replicate 12 0) = z12 at *
  have e1 := spl_mid [] z32 ([Value.int .u32 0] ++ z12) (bs key) 0 rfl (by rw [hl0, r32])
  have e2 := spl_mid (bs key ++ [Value.int .u32 0]) z12 [] (bs nonce) 33 (by simp [hl0]) (by rw [hl1, r12])
  rw [List.nil_append, List.nil_append] at e1
  rw [List.append_nil, List.append_nil, List.append_assoc, List.append_assoc] at e2
  show Instr.fill _ _ [(0, .agg (bs key).toArray), (2, .agg (bs nonce).toArray)] = _
  rw [fill_spl (off := 0) (size := 32) rfl (by show (bs key).toArray.size = 32; rw [List.size_toArray, hl0]) (by simp [r32])]
  simp only [Value.cells]
  rw [e1, fill_spl (off := 33) (size := 12) rfl (by show (bs nonce).toArray.size = 12; rw [List.size_toArray, hl1]) (by simp [hl0, r12])]
  simp only [Value.cells]
  rw [e2, Instr.fill]
  rfl
theorem build_at (w : World) (key nonce : List Int) (c : Int) (hk : key.length = 32) (hn : nonce.length = 12) : (Instr.build 26 #[(0, .agg (bs key).toArray), (1, .int .u32 c), (2, .agg (bs nonce).toArray)]).run Tryd.prog w = .ok (.agg (atV key c nonce).toArray) w := by
  obtain ⟨fs, hfs, hpl⟩ := at_places
  refine build_struct hfs hpl atV_zero ?_
  have hl0 : (bs key).length = 32 := by rw [bs_len, hk]
  have hl1 : (bs nonce).length = 12 := by rw [bs_len, hn]
  have r32 : (bs (List.replicate 32 0)).length = 32 := by rw [bs_len, List.length_replicate]
  have r12 : (bs (List.replicate 12 0)).length = 12 := by rw [bs_len, List.length_replicate]
  generalize bs (List.replicate 32 0) = z32 at *
  generalize bs (List.replicate 12 0) = z12 at *
  have e1 := spl_mid [] z32 ([Value.int .u32 0] ++ z12) (bs key) 0 rfl (by rw [hl0, r32])
  have e2 := spl_mid (bs key) [Value.int .u32 0] z12 [Value.int .u32 c] 32 hl0.symm rfl
  have e3 := spl_mid (bs key ++ [Value.int .u32 c]) z12 [] (bs nonce) 33 (by simp [hl0]) (by rw [hl1, r12])
  rw [List.nil_append, List.nil_append] at e1
  rw [List.append_nil, List.append_nil, List.append_assoc, List.append_assoc] at e3
  show Instr.fill _ _ [(0, .agg (bs key).toArray), (1, .int .u32 c), (2, .agg (bs nonce).toArray)] = _
  rw [fill_spl (off := 0) (size := 32) rfl (by show (bs key).toArray.size = 32; rw [List.size_toArray, hl0]) (by simp [r32])]
  simp only [Value.cells]
  rw [e1, fill_spl (off := 32) (size := 1) rfl rfl (by simp [hl0, r12])]
  simp only [Value.cells]
  rw [e2, fill_spl (off := 33) (size := 12) rfl (by show (bs nonce).toArray.size = 12; rw [List.size_toArray, hl1]) (by simp [hl0, r12])]
  simp only [Value.cells]
  rw [e3, Instr.fill]
  rfl
/-- What the walk makes of the same. -/
theorem foldl_put0 (l : List Value) (cs : Array Value) (h : l.length ≤ cs.size) : (l.zipIdx.foldl (fun cs (x : Value × Nat) => cs.setIfInBounds x.snd x.fst) cs).toList = l ++ cs.toList.drop l.length := by
  have := foldl_put 0 l 0 cs (by omega)
  simpa using this
theorem at_size (key : List Int) (hk : key.length = 32) : ((bs key).zipIdx.foldl (fun cs (x : Value × Nat) => cs.setIfInBounds x.snd x.fst) #[.int .u8 0, .int .u8 0, .int .u8 0, .int .u8 0, .int .u8 0, .int .u8 0, .int .u8 0, .int .u8 0, .int .u8 0, .int .u8 0, .int .u8 0, .int .u8 0, .int .u8 0, .int .u8 0, .int .u8 0, .int .u8 0, .int .u8 0, .int .u8 0, .int .u8 0, .int .u8 0, .int .u8 0, .int .u8 0, .int .u8 0, .int .u8 0, .int .u8 0, .int .u8 0, .int .u8 0, .int .u8 0, .int .u8 0, .int .u8 0, .int .u8 0, .int .u8 0, .int .u32 0, .int .u8 0, .int .u8 0, .int .u8 0, .int .u8 0, .int .u8 0, .int .u8 0, .int .u8 0, .int .u8 0, .int .u8 0, .int .u8 0, .int .u8 0, .int .u8 0]).size = 45 := by
  have hl0 : (bs key).length = 32 := by rw [bs_len, hk]
  have e1 := foldl_put0 (bs key) #[.int .u8 0, .int .u8 0, .int .u8 0, .int .u8 0, .int .u8 0, .int .u8 0, .int .u8 0, .int .u8 0, .int .u8 0, .int .u8 0, .int .u8 0, .int .u8 0, .int .u8 0, .int .u8 0, .int .u8 0, .int .u8 0, .int .u8 0, .int .u8 0, .int .u8 0, .int .u8 0, .int .u8 0, .int .u8 0, .int .u8 0, .int .u8 0, .int .u8 0, .int .u8 0, .int .u8 0, .int .u8 0, .int .u8 0, .int .u8 0, .int .u8 0, .int .u8 0, .int .u32 0, .int .u8 0, .int .u8 0, .int .u8 0, .int .u8 0, .int .u8 0, .int .u8 0, .int .u8 0, .int .u8 0, .int .u8 0, .int .u8 0, .int .u8 0, .int .u8 0] (by rw [hl0]; decide)
  rw [hl0] at e1
  rw [← Array.length_toList, e1, List.length_append, hl0]; rfl
theorem at_fold0 (key nonce : List Int) (hk : key.length = 32) (hn : nonce.length = 12) :
    (bs nonce).zipIdx.foldl (fun cs (x : Value × Nat) => cs.setIfInBounds (33 + x.snd) x.fst) ((bs key).zipIdx.foldl (fun cs (x : Value × Nat) => cs.setIfInBounds x.snd x.fst) #[.int .u8 0, .int .u8 0, .int .u8 0, .int .u8 0, .int .u8 0, .int .u8 0, .int .u8 0, .int .u8 0, .int .u8 0, .int .u8 0, .int .u8 0, .int .u8 0, .int .u8 0, .int .u8 0, .int .u8 0, .int .u8 0, .int .u8 0, .int .u8 0, .int .u8 0, .int .u8 0, .int .u8 0, .int .u8 0, .int .u8 0, .int .u8 0, .int .u8 0, .int .u8 0, .int .u8 0, .int .u8 0, .int .u8 0, .int .u8 0, .int .u8 0, .int .u8 0, .int .u32 0, .int .u8 0, .int .u8 0, .int .u8 0, .int .u8 0, .int .u8 0, .int .u8 0, .int .u8 0, .int .u8 0, .int .u8 0, .int .u8 0, .int .u8 0, .int .u8 0]) = (atV key 0 nonce).toArray := by
  have hl0 : (bs key).length = 32 := by rw [bs_len, hk]
  have hl1 : (bs nonce).length = 12 := by rw [bs_len, hn]
  have e1 := foldl_put0 (bs key) #[.int .u8 0, .int .u8 0, .int .u8 0, .int .u8 0, .int .u8 0, .int .u8 0, .int .u8 0, .int .u8 0, .int .u8 0, .int .u8 0, .int .u8 0, .int .u8 0, .int .u8 0, .int .u8 0, .int .u8 0, .int .u8 0, .int .u8 0, .int .u8 0, .int .u8 0, .int .u8 0, .int .u8 0, .int .u8 0, .int .u8 0, .int .u8 0, .int .u8 0, .int .u8 0, .int .u8 0, .int .u8 0, .int .u8 0, .int .u8 0, .int .u8 0, .int .u8 0, .int .u32 0, .int .u8 0, .int .u8 0, .int .u8 0, .int .u8 0, .int .u8 0, .int .u8 0, .int .u8 0, .int .u8 0, .int .u8 0, .int .u8 0, .int .u8 0, .int .u8 0] (by rw [hl0]; decide)
  generalize ((bs key).zipIdx.foldl (fun cs (x : Value × Nat) => cs.setIfInBounds x.snd x.fst) #[.int .u8 0, .int .u8 0, .int .u8 0, .int .u8 0, .int .u8 0, .int .u8 0, .int .u8 0, .int .u8 0, .int .u8 0, .int .u8 0, .int .u8 0, .int .u8 0, .int .u8 0, .int .u8 0, .int .u8 0, .int .u8 0, .int .u8 0, .int .u8 0, .int .u8 0, .int .u8 0, .int .u8 0, .int .u8 0, .int .u8 0, .int .u8 0, .int .u8 0, .int .u8 0, .int .u8 0, .int .u8 0, .int .u8 0, .int .u8 0, .int .u8 0, .int .u8 0, .int .u32 0, .int .u8 0, .int .u8 0, .int .u8 0, .int .u8 0, .int .u8 0, .int .u8 0, .int .u8 0, .int .u8 0, .int .u8 0, .int .u8 0, .int .u8 0, .int .u8 0]) = Y at *
  rw [hl0] at e1
  have hY : Y.size = 45 := by rw [← Array.length_toList, e1, List.length_append, hl0]; rfl
  have e2 := foldl_put 33 (bs nonce) 0 Y (by rw [hl1, hY]; decide)
  apply Array.toList_inj.1
  rw [e2, e1, hl1]
  have t1 : (bs key ++ List.drop 32 (#[.int .u8 0, .int .u8 0, .int .u8 0, .int .u8 0, .int .u8 0, .int .u8 0, .int .u8 0, .int .u8 0, .int .u8 0, .int .u8 0, .int .u8 0, .int .u8 0, .int .u8 0, .int .u8 0, .int .u8 0, .int .u8 0, .int .u8 0, .int .u8 0, .int .u8 0, .int .u8 0, .int .u8 0, .int .u8 0, .int .u8 0, .int .u8 0, .int .u8 0, .int .u8 0, .int .u8 0, .int .u8 0, .int .u8 0, .int .u8 0, .int .u8 0, .int .u8 0, .int .u32 0, .int .u8 0, .int .u8 0, .int .u8 0, .int .u8 0, .int .u8 0, .int .u8 0, .int .u8 0, .int .u8 0, .int .u8 0, .int .u8 0, .int .u8 0, .int .u8 0] : Array Value).toList).take (33 + 0) = bs key ++ [.int .u32 0] := by
    rw [List.take_append, hl0, List.take_of_length_le (by rw [hl0]; decide)]; rfl
  have t2 : (bs key ++ List.drop 32 (#[.int .u8 0, .int .u8 0, .int .u8 0, .int .u8 0, .int .u8 0, .int .u8 0, .int .u8 0, .int .u8 0, .int .u8 0, .int .u8 0, .int .u8 0, .int .u8 0, .int .u8 0, .int .u8 0, .int .u8 0, .int .u8 0, .int .u8 0, .int .u8 0, .int .u8 0, .int .u8 0, .int .u8 0, .int .u8 0, .int .u8 0, .int .u8 0, .int .u8 0, .int .u8 0, .int .u8 0, .int .u8 0, .int .u8 0, .int .u8 0, .int .u8 0, .int .u8 0, .int .u32 0, .int .u8 0, .int .u8 0, .int .u8 0, .int .u8 0, .int .u8 0, .int .u8 0, .int .u8 0, .int .u8 0, .int .u8 0, .int .u8 0, .int .u8 0, .int .u8 0] : Array Value).toList).drop (33 + 0 + 12) = [] := by
    apply List.drop_of_length_le; rw [List.length_append, hl0]; decide
  rw [t1, t2, List.append_nil, atV, List.append_assoc]
  rfl
end Go.Proofs.YtmjjnaaiakchhaaDoor
end

section
/-
  A slice of the call's own that need not begin at its array's head; append onto it.
-/
namespace Go.Proofs.YtmjjnaaiakchhaaDoor
open Go.RowKit

/-- The slice lies in block b. -/
def hold (v : Value) (b : Nat) : Prop := ∃ off n c, v = .slice (some ⟨b, off, none⟩) n c
/-- A slice of the call's own: it may begin anywhere in its array. -/
def Part (w : World) (base : Nat) (e : TypeId) (v : Value) (xs : List Value) : Prop :=
  (v = .slice none 0 0 ∧ xs = []) ∨ ∃ g off cap cur, v = .slice (some ⟨g, off, none⟩) xs.length cap ∧ base ≤ g ∧ w.heap[g]? = some (.cells cur e (0, 0)) ∧ xs.length ≤ cap ∧ cap ≤ maxLen ∧ off + cap ≤ cur.size ∧ (cur.toList.drop off).take xs.length = xs
theorem Part.nil (w : World) (base : Nat) (e : TypeId) : Part w base e (.slice none 0 0) [] := .inl ⟨rfl, rfl⟩
theorem Part.rd {w : World} {base : Nat} {e : TypeId} {v : Value} {xs : List Value} (h : Part w base e v xs) : Rd w v xs := by
  rcases h with ⟨rfl, rfl⟩ | ⟨g, off, cap, cur, rfl, _, hg, h1, h2, h3, h4⟩
  · exact Rd.nil w
  · refine ⟨_, cap, rfl, h1, h2, (fun h => by cases h), .inr ⟨g, off, rfl, fun j hj => ?_⟩⟩
    have h5 : ((cur.toList.drop off).take xs.length)[j]? = some xs[j] := by rw [h4]; exact List.getElem?_eq_getElem hj
    rw [List.getElem?_take_of_lt hj, List.getElem?_drop] at h5
    simp only [World.cell?, hg]
    rw [← Array.getElem?_toList]
    simpa using h5
theorem Part.mono {w : World} {base base' : Nat} {e : TypeId} {v : Value} {xs : List Value} (h : Part w base e v xs) (hb : base' ≤ base) : Part w base' e v xs := by
  rcases h with h | ⟨g, off, cap, cur, h1, h2, h3⟩
  · exact .inl h
  · exact .inr ⟨g, off, cap, cur, h1, Nat.le_trans hb h2, h3⟩
theorem Part.move {w w' : World} {base : Nat} {e : TypeId} {v : Value} {xs : List Value} (h : Part w base e v xs) (hm : ∀ g off n c, v = .slice (some ⟨g, off, none⟩) n c → w'.heap[g]? = w.heap[g]?) : Part w' base e v xs := by
  rcases h with h | ⟨g, off, cap, cur, h1, h2, h3, h4⟩
  · exact .inl h
  · exact .inr ⟨g, off, cap, cur, h1, h2, (hm g off _ _ h1).trans h3, h4⟩
theorem Part.lt {w : World} {base : Nat} {e : TypeId} {v : Value} {xs : List Value} (h : Part w base e v xs) : ∀ g off n c, v = .slice (some ⟨g, off, none⟩) n c → base ≤ g ∧ g < w.heap.size := by
  intro g off n c hv
  rcases h with ⟨rfl, _⟩ | ⟨g', off', cap, cur, rfl, h2, h3, _⟩
  · cases hv
  · cases hv
    exact ⟨h2, (Array.getElem?_eq_some_iff.1 h3).1⟩
theorem Part.stay {w w' : World} {base : Nat} {e : TypeId} {v : Value} {xs : List Value} (h : Part w base e v xs) (hb : Below w.heap.size w w') : Part w' base e v xs :=
  h.move fun g off n c hv => hb.block g (h.lt g off n c hv).2
/-- The rest of it, from i on. -/
theorem Part.drop {w : World} {base : Nat} {e : TypeId} {A : Option Addr} {n c : Nat} {xs : List Value} (h : Part w base e (.slice A n c) xs) (i : Nat) (hi : i ≤ xs.length) (A' : Option Addr) (hA : A' = if c = i then A else A.map (·.add i)) : Part w base e (.slice A' (xs.length - i) (c - i)) (xs.drop i) := by
  rcases h with ⟨hv, rfl⟩ | ⟨g, off, cap, cur, hv, h2, h3, h4, h5, h6, h7⟩
  · cases hv
    simp at hi
    subst hi
    left
    subst hA
    exact ⟨rfl, rfl⟩
  · injection hv with e1 e2 e3
    subst e1 e3
    right
    have hl : (xs.drop i).length = xs.length - i := List.length_drop
    by_cases hc : c = i
    · rw [if_pos hc] at hA
      subst hA
      have hx : xs.drop i = [] := List.drop_of_length_le (by omega)
      refine ⟨g, off, c - i, cur, by rw [hl], h2, h3, by rw [hl]; omega, by omega, by omega, ?_⟩
      rw [hx]; simp
    · rw [if_neg hc] at hA
      refine ⟨g, off + i, c - i, cur, ?_, h2, h3, by rw [hl]; omega, by omega, by omega, ?_⟩
      · rw [hl, hA]
        simp only [Option.map_some, Addr.add]
        split
        · next h => subst h; rfl
        · rfl
      · rw [hl]
        have h8 := congrArg (List.drop i) h7
        rw [List.drop_take, List.drop_drop] at h8
        exact h8

theorem run_append_room_at {P : Program} (w : World) (t ty e : TypeId) (i : TypeInfo) (ht : P.underlying t = some (.slice e)) (hi : P.info? e = some i) (hs : i.size = 1)
    (g off sLen sCap : Nat) (cur : Array Value) (hg : w.heap[g]? = some (.cells cur e (0, 0)))
    (a : Addr) (m c : Nat) (news : List Value) (hl : news.length = m) (hnews : ∀ j u, news[j]? = some u → w.cell? (a.add j) = some u) (h1 : ∀ u ∈ news, u.oneCell' = true)
    (hroom : sLen + m ≤ sCap) (hfit : off + sLen + news.length ≤ cur.size) :
    (Builtin.append_ #[t, t] ty #[.slice (some ⟨g, off, none⟩) sLen sCap, .slice (some a) m c]).run P w =
      .ok (.slice (some ⟨g, off, none⟩) (sLen + m) sCap) (w.setRow g (cur.toList.take (off + sLen) ++ news ++ cur.toList.drop (off + sLen + news.length)).toArray) := by
  have hf := run_firstCells_some (P := P) w i.size m a m c news (by rw [hs, Nat.mul_one]; exact hl) hnews
  rw [hs] at hf
  have hst := run_storeCells_at (P := P) g (off + sLen) e news 0 cur w hg (by simpa using hfit) h1
  simp only [Nat.add_zero] at hst
  have hadd : (⟨g, off, none⟩ : Addr).add sLen = ⟨g, off + sLen, none⟩ := by unfold Addr.add; split <;> simp_all
  simp [Builtin.append_, run_underlying ht, sizeOf, typeInfo, hi, Builtin.lenOf, hroom, hf, hs, hadd, hst]

/-- append onto a slice of the call's own. -/
theorem run_app_part {P : Program} {w : World} (t ty e : TypeId) (z : Value) (bytes : Nat) (ht : P.underlying t = some (.slice e))
    (hinfo : (P.info? e).map (fun i => (i.zero, i.size, i.bytes)) = some (some z, 1, bytes)) (hzs : z.cells.size = 1) (base : Nat) {v u : Value} {xs ys : List Value} (hown : Part w base e v xs)
    (hr : Rd w u ys) (h1 : ∀ y ∈ ys, y.oneCell' = true) (hb1 : 1 ≤ bytes) (hbytes : (xs.length + ys.length) * bytes ≤ 140737488355328) (hbase : base ≤ w.heap.size) :
    ∃ v' w', (Builtin.append_ #[t, t] ty #[v, u]).run P w = .ok v' w' ∧ Part w' base e v' (xs ++ ys) ∧ Turns (fun k => ∃ off n c, v = .slice (some ⟨k, off, none⟩) n c) w w' ∧
      ∀ g off n c, v' = .slice (some ⟨g, off, none⟩) n c → w.heap.size ≤ g ∨ ∃ off n c, v = .slice (some ⟨g, off, none⟩) n c := by
  rcases hown with ⟨rfl, rfl⟩ | ⟨g, off, cap, cur, rfl, hbg, hg, hc, hm, hs, hx⟩
  · obtain ⟨v', w', h4, h5, h6⟩ := run_app (P := P) (w := w) t ty e z bytes ht hinfo hzs w.heap.size (World.ownsRow_nil w _ _ _) hr h1 hb1 (by simpa using hbytes) (Nat.le_refl _)
    refine ⟨v', w', h4, ?_, Turns.of_below h6, ?_⟩
    · rcases h5.2 with ⟨rfl, h7⟩ | ⟨g, cap, cur, rfl, h7, h8, h9, h10, h11, h12⟩
      · left
        refine ⟨rfl, ?_⟩
        have := h5.1
        simp only [Nat.mul_one, List.nil_append, Nat.zero_add] at this h7 ⊢
        exact List.eq_nil_of_length_eq_zero (by omega)
      · right
        have hl : ([] ++ ys).length = ys.length := by simp
        refine ⟨g, 0, cap, cur, by simp, Nat.le_trans hbase h7, h8, by simpa using h9, h10, by omega, ?_⟩
        simp only [Nat.mul_one] at h12
        rw [List.drop_zero]
        simpa using h12
    · intro g off n c hv
      left
      rcases h5.2 with ⟨rfl, h7⟩ | ⟨g, cap, cur, rfl, h7, _⟩
      · cases hv
      · cases hv; exact h7
  · obtain ⟨i, hi, hz0, hz1, hz2⟩ := info_parts hinfo
    have hR : ∀ j y, xs[j]? = some y → w.cell? ((⟨g, off, none⟩ : Addr).add j) = some y := fun j y hj => by
      have hp : Part w base e (.slice (some ⟨g, off, none⟩) xs.length cap) xs := .inr ⟨g, off, cap, cur, rfl, hbg, hg, hc, hm, hs, hx⟩
      have hadd : (⟨g, off, none⟩ : Addr).add j = ⟨g, off + j, none⟩ := by unfold Addr.add; split <;> simp_all
      obtain ⟨A, c', hv, _, _, _, h3⟩ := hp.rd
      cases hv
      obtain ⟨hlt, rfl⟩ := List.getElem?_eq_some_iff.1 hj
      rcases h3 with h3 | ⟨b, o, hA, h3⟩
      · subst h3; simp at hlt
      · cases hA
        rw [hadd]
        exact h3 j hlt
    have h63 : xs.length + ys.length ≤ 140737488355328 := Nat.le_trans (Nat.le_mul_of_pos_right _ hb1) hbytes
    obtain ⟨A, c, rfl, hc1, hc2, h0, h3⟩ := hr
    cases A with
    | none =>
      obtain rfl : c = 0 := h0 rfl
      obtain rfl : ys = [] := List.eq_nil_of_length_eq_zero (by omega)
      refine ⟨.slice (some ⟨g, off, none⟩) xs.length cap, w, ?_, by rw [List.append_nil]; exact .inr ⟨g, off, cap, cur, rfl, hbg, hg, hc, hm, hs, hx⟩, Turns.refl _ _, fun g' off' n' c' hv => .inr ⟨_, _, _, hv⟩⟩
      simp [Builtin.append_, run_underlying ht, sizeOf, typeInfo, hi, Builtin.lenOf, Builtin.firstCells, loadCells, hc, storeCells]
    | some ad =>
      have hn : ∀ j u, ys[j]? = some u → w.cell? (ad.add j) = some u := by
        intro j y hj
        rcases h3 with rfl | ⟨b, o', hA, h3⟩
        · simp at hj
        · obtain rfl : ad = ⟨b, o', none⟩ := by simpa using hA
          obtain ⟨hlt, rfl⟩ := List.getElem?_eq_some_iff.1 hj
          rw [← h3 j hlt]
          congr 1
          unfold Addr.add; split <;> simp_all
      by_cases hroom : xs.length + ys.length ≤ cap
      · have hrun := run_append_room_at (P := P) w t ty e i ht hi hz1 g off xs.length cap cur hg ad ys.length c ys rfl hn h1 hroom (by omega)
        refine ⟨_, _, hrun, .inr ⟨g, off, cap, _, by rw [List.length_append], hbg, setRow_heap w g cur _ e (0, 0) hg, by rw [List.length_append]; exact hroom, hm, ?_, ?_⟩, Turns.of_only (Only.row w g _) ⟨off, _, _, rfl⟩, fun g' off' n' c' hv => by cases hv; exact .inr ⟨_, _, _, rfl⟩⟩
        · have : cur.toList.length = cur.size := Array.length_toList
          simp only [List.size_toArray, List.length_append, List.length_take, List.length_drop, this]
          omega
        · have hcl : cur.toList.length = cur.size := Array.length_toList
          have hto : (cur.toList.take (off + xs.length)).length = off + xs.length := by rw [List.length_take]; omega
          have h8 : (cur.toList.take (off + xs.length)).drop off = xs := by
            rw [List.drop_take, Nat.add_sub_cancel_left]; exact hx
          rw [List.toList_toArray, List.length_append, List.append_assoc, List.drop_append_of_le_length (by omega), h8, ← List.append_assoc]
          rw [List.take_append_of_le_length (by rw [List.length_append]; exact Nat.le_refl _), List.take_of_length_le (by rw [List.length_append]; exact Nat.le_refl _)]
      · have hrun := run_append_grow (P := P) (w := w) t ty e i z ht hi hz0 ⟨g, off, none⟩ xs.length cap xs (by rw [hz1, Nat.mul_one]) hR ad ys.length c ys (by rw [hz1, Nat.mul_one]) hn (by omega) (by omega) (by rw [hz2]; exact growslice_fits (by omega) hbytes)
        have hge := grownCap_ge w (xs.length + ys.length) cap e
        refine ⟨_, _, hrun, .inr ⟨w.heap.size, 0, _, _, by rw [List.length_append], hbase, heap_alloc_new w.drew _, by rw [List.length_append]; exact hge, grownCap_le_maxLen w _ _ e (by unfold maxLen; omega), ?_, ?_⟩, ?_, fun g' off' n' c' hv => by cases hv; exact .inl (Nat.le_refl _)⟩
        · simp only [Array.size_append, List.size_toArray, size_zeroCells, hzs]
          omega
        · simp only [Array.toList_append, List.drop_zero]
          rw [List.length_append, List.take_append_of_le_length (by simp), List.take_of_length_le (by simp)]
        · exact Turns.of_below (bw_al (bw_d1 (Below.refl _ _)) (Nat.le_refl _) _)

theorem wp_app_part {P : Program} {ops : Array Oper} {rest : List Oper} {o : Oper} {a : Act} {Q : Exit → Act → World → Prop} {w : World} (s x : Operand) (t : TypeId) (hgd : o.guard = none)
    (ho : o.op = .call { callee := .builtin .append, args := #[s, x], argTypes := #[t, t] }) (e : TypeId) (z : Value) (bytes : Nat) (ht : P.underlying t = some (.slice e))
    (hinfo : (P.info? e).map (fun i => (i.zero, i.size, i.bytes)) = some (some z, 1, bytes)) (hzs : z.cells.size = 1) (base : Nat) {v u : Value} {xs ys : List Value} (hs : a.eval s = v) (hown : Part w base e v xs)
    (hx : a.eval x = u) (hr : Rd w u ys) (h1 : ∀ y ∈ ys, y.oneCell' = true) (hb1 : 1 ≤ bytes) (hbytes : (xs.length + ys.length) * bytes ≤ 140737488355328) (hbase : base ≤ w.heap.size)
    (h : ∀ v' w', Part w' base e v' (xs ++ ys) → Turns (fun k => ∃ off n c, v = .slice (some ⟨k, off, none⟩) n c) w w' → (∀ g off n c, v' = .slice (some ⟨g, off, none⟩) n c → w.heap.size ≤ g ∨ ∃ off n c, v = .slice (some ⟨g, off, none⟩) n c) → wpList P ops Q rest (a.put o.dst v') w') : wpList P ops Q (o :: rest) a w :=
  wpList_plain hgd fun K hK => by
    obtain ⟨v', w', h4, h5, h6, h7⟩ := run_app_part (P := P) t o.type e z bytes ht hinfo hzs base hown hr h1 hb1 hbytes hbase
    show o.upon P a K Q ((execOp a.eval o).run P w)
    simp [execOp, ho, resolve, invoke, builtin, hs, hx, h4, Result.andThen]
    exact hK _ _ (h _ _ h5 h6 h7)
end Go.Proofs.YtmjjnaaiakchhaaDoor

/-
  (*poly.part).fill.
-/
namespace Go.Proofs.YtmjjnaaiakchhaaDoor
open Go.RowKit

theorem macC_set0 (held held' : Value) (r0 r1 s0 s1 s2 a0 a1 a2 : Int) (on : Bool) : (macC held r0 r1 s0 s1 s2 a0 a1 a2 on).set 0 held' = macC held' r0 r1 s0 s1 s2 a0 a1 a2 on := rfl
theorem info33 : (Tryd.prog.info? 30).map (fun i => (i.zero, i.size, i.bytes)) = some (some (.slice none 0 0), 1, 24) := by kernel_rfl
/-- So many pieces of sixteen bytes each, and what they read as. -/
def Pcs (w : World) (base : Nat) (ps : List Value) (xs : List Int) : Prop := ∀ j v, ps[j]? = some v → Part w base 5 v (bs ((xs.drop (16 * j)).take 16)) ∧ 16 * (j + 1) ≤ xs.length
theorem Rd.turns {S : Nat → Prop} {w w' : World} {v : Value} {xs : List Value} (h : Rd w v xs) (k : Turns S w w') (hn : ∀ b o n c, v = .slice (some ⟨b, o, none⟩) n c → ¬ S b) : Rd w' v xs := by
  obtain ⟨A, c, rfl, h1, h2, h0, h3⟩ := h
  refine ⟨A, c, rfl, h1, h2, h0, ?_⟩
  rcases h3 with h3 | ⟨b, o, rfl, h3⟩
  · exact .inl h3
  · exact .inr ⟨b, o, rfl, fun j hj => k.cell (hn b o _ _ rfl) (h3 j hj)⟩
theorem Part.turns {S : Nat → Prop} {w w' : World} {base : Nat} {e : TypeId} {v : Value} {xs : List Value} (h : Part w base e v xs) (k : Turns S w w') (hn : ∀ b, base ≤ b → ¬ S b) : Part w' base e v xs :=
  h.move fun g off n c hv => k.block g (h.lt g off n c hv).2 (hn g (h.lt g off n c hv).1)
/-- The first i of it. -/
theorem Part.take {w : World} {base : Nat} {e : TypeId} {A : Option Addr} {n c : Nat} {xs : List Value} (h : Part w base e (.slice A n c) xs) (i : Nat) (hi : i ≤ xs.length) (h0 : 0 < xs.length) : Part w base e (.slice A i c) (xs.take i) := by
  rcases h with ⟨hv, rfl⟩ | ⟨g, off, cap, cur, hv, h2, h3, h4, h5, h6, h7⟩
  · simp at h0
  · injection hv with e1 e2 e3
    subst e1 e3
    have hl : (xs.take i).length = i := by rw [List.length_take]; omega
    refine .inr ⟨g, off, c, cur, by rw [hl], h2, h3, by rw [hl]; omega, h5, h6, ?_⟩
    have h8 := congrArg (List.take i) h7
    rw [List.take_take, Nat.min_eq_left hi] at h8
    rw [hl, h8]

/-- The first i of it, and the rest: as they run. -/
theorem part_facts {P : Program} {w : World} {base : Nat} {e : TypeId} {v : Value} {xs : List Value} (h : Part w base e v xs) {t : TypeId} (ht : P.underlying t = some (.slice (P.elem t))) (hsz : ∀ w, (sizeOf (P.elem t)).run P w = .ok 1 w) (i : Nat) (h0 : 0 < i) (hi : i ≤ xs.length) :
    ∃ A2 c2 A3 c3, Part w base e (.slice A2 i c2) (xs.take i) ∧ Part w base e (.slice A3 (xs.length - i) c3) (xs.drop i) ∧
      (∀ w', (Instr.sliceAt t v none (some (.int .i64 i)) none).run P w' = .ok (.slice A2 i c2) w') ∧ (∀ w', (Instr.slice t v none (some (.int .i64 i)) none).run P w' = .ok (.slice A2 i c2) w') ∧
      (∀ w', (Instr.sliceAt t v (some (.int .i64 i)) none none).run P w' = .ok (.slice A3 (xs.length - i) c3) w') ∧ (∀ w', (Instr.slice t v (some (.int .i64 i)) none none).run P w' = .ok (.slice A3 (xs.length - i) c3) w') ∧ (∀ b, hold (.slice A3 (xs.length - i) c3) b → hold v b) := by
  obtain ⟨A, c, rfl, h1, h2, h3, _⟩ := id h.rd
  have f2 : ∀ w', (Instr.slice t (.slice A xs.length c) none (some (.int .i64 i)) none).run P w' = .ok (.slice A i c) w' := fun w' => by
    rw [run_slice_h (w := w') t A _ c ht .i64 i (by omega) (by omega), hsz]
    have hc0 : A.map (fun a => a.add 0) = A := by cases A <;> simp [Addr.add]
    simp [Result.andThen, sliced, hc0]
  have f3 : ∀ w', (Instr.slice t (.slice A xs.length c) (some (.int .i64 i)) none none).run P w' = .ok (.slice (if c = i then A else A.map (·.add i)) (xs.length - i) (c - i)) w' := fun w' => by
    rw [run_slice_l (w := w') t A _ c ht .i64 i (by omega) (by omega), hsz]
    simp [Result.andThen, sliced]
  refine ⟨A, c, _, _, h.take i hi (by omega), h.drop i hi _ rfl, fun w' => ?_, f2, fun w' => ?_, f3, fun b ⟨off, n, c', hh⟩ => ?_⟩
  · rw [run_sliceAt_slice (w := w') t _ _ _ _ ht]; exact f2 w'
  · rw [run_sliceAt_slice (w := w') t _ _ _ _ ht]; exact f3 w'
  · injection hh with e1 e2 e3
    rcases A with _ | a
    · simp at e1
    · rcases h with ⟨hv, _⟩ | ⟨g', off', cap, cur, hv, _⟩
      · cases hv
      · injection hv with hv _ _
        injection hv with hv
        subst hv
        split at e1
        · injection e1 with e1; injection e1 with e1; subst e1; exact ⟨_, _, _, rfl⟩
        · simp only [Option.map_some, Option.some.injEq] at e1
          have e2 := congrArg Addr.block e1
          have e3 : (Addr.add ⟨g', off', none⟩ i).block = g' := by unfold Addr.add; split <;> rfl
          rw [e3] at e2
          subst e2
          exact ⟨_, _, _, rfl⟩

theorem Turns.low {S : Nat → Prop} {w0 w w' : World} (h : Turns S w0 w) (k : Below w0.heap.size w w') : Turns S w0 w' :=
  ⟨k.os.trans h.os, k.tape.trans h.tape, k.output.trans h.output, Nat.le_trans h.size k.size, fun j hj hs => (k.block j hj).trans (h.block j hj hs)⟩
/-- A row of the call's own, while a block ahead of it is written. -/
theorem own_other {w : World} {base n : Nat} {e : TypeId} {v : Value} {xs : List Value} (h : w.ownsRow base e 1 v n xs) {b : Nat} (hb : b < base) (i : Nat) (x : Value) : (w.setCell ⟨b, i, none⟩ x).ownsRow base e 1 v n xs := by
  refine ⟨h.1, h.2.imp id ?_⟩
  rintro ⟨g, cap, cur, h1, h2, h3, h4⟩
  exact ⟨g, cap, cur, h1, h2, (Below.heap_setCell _ _ _ _ (by show g ≠ b; omega)).trans h3, h4⟩

structure FInv (w1 wr : World) (g : Nat) (r0 r1 s0 s1 s2 a0 a1 a2 : Int) (on : Bool) (all : List Int) (k : Nat) (v1 hv ov : Value) (ps : List Value) : Prop where
  mac : Blk wr g (macC hv r0 r1 s0 s1 s2 a0 a1 a2 on) 92
  held : Part w1 (g + 1) 5 hv (bs (all.drop (16 * k)))
  out : wr.ownsRow w1.heap.size 30 1 ov k ps
  pcs : Pcs w1 (g + 1) ps all
  le : 16 * k ≤ all.length
  lo : g < w1.heap.size
  tu : Turns (fun b => b = g) w1 wr
  hh : ∀ b, hold hv b → hold v1 b

def FillRes (w : World) (g : Nat) (held : Value) (r0 r1 s0 s1 s2 a0 a1 a2 : Int) (on : Bool) (all : List Int) (e : Ending) (w' : World) : Prop :=
  ∃ ov w1 v1 hv ps, e = .returned ov ∧ FInv w1 w' g r0 r1 s0 s1 s2 a0 a1 a2 on all (all.length / 16) v1 hv ov ps ∧ Turns (fun b => b = g ∨ hold held b) w w' ∧ ∀ b, hold hv b → w.heap.size ≤ b ∨ hold held b

set_option maxRecDepth 100000 in
set_option maxHeartbeats 4000000 in
theorem fill_any (w : World) (g : Nat) (held : Value) (r0 r1 s0 s1 s2 a0 a1 a2 : Int) (on : Bool) (hs xs : List Int) (v : Value) (hm : Blk w g (macC held r0 r1 s0 s1 s2 a0 a1 a2 on) 92) (hp : Part w (g + 1) 5 held (bs hs)) (hd : Rd w v (bs xs)) (hl : hs.length + xs.length ≤ 1000000000000) :
    Calls Tryd.prog 53 #[.pointer (some ⟨g, 0, none⟩), v] w fun e w' => FillRes w g held r0 r1 s0 s1 s2 a0 a1 a2 on (hs ++ xs) e w' := by
  have HM := Lib.hid hm
  have HP := Lib.hid hp
  have HD := Lib.hid hd
  have m0 := hm.at_ 0 rfl
  have hgl := hm.lt
  have hne : ¬ ∃ off n c, held = .slice (some ⟨g, off, none⟩) n c := fun ⟨off, n, c, h⟩ => by have := (hp.lt g off n c h).1; omega
  clear hm hp hd
  go_enter Tryd.func53, Tryd.ntmps53
  go_upto_region 1 with fail
  go_upto_region 2 with (at_builtin; refine wp_app_part (.tmp 10) (.tmp 11) 30 rfl rfl 5 (.int .u8 0) 1 Tryd.underlying30 info5 rfl (g + 1) rfl HP.out rfl HD.out (bs_one _) (by decide) (by rw [bs_len, bs_len]; omega) (by omega) ?_; intro v1 w1 hp1 ht1 hb1; obtain ⟨A1, c1, hv1, _⟩ := id hp1.rd; subst hv1; have m1 := (HM.out.turns ht1 hne).at_ 0 rfl; have f1 := (HM.out.turns ht1 hne).free 0)
  obtain ⟨all, hall⟩ : ∃ all, hs ++ xs = all := ⟨_, rfl⟩
  rw [← bs_append, hall] at hp1
  have hlen : (bs hs).length + (bs xs).length = all.length := by rw [← hall, List.length_append, bs_len, bs_len]
  have halen : all.length ≤ 1000000000000 := by rw [← hall, List.length_append]; exact hl
  rw [bs_len] at hp1
  simp only [hlen]
  have hs1 := ht1.size
  have inv0 : FInv w1 (w1.setCell ⟨g, 0, none⟩ (.slice A1 all.length c1)) g r0 r1 s0 s1 s2 a0 a1 a2 on all 0 (.slice A1 all.length c1) (.slice A1 all.length c1) (.slice none 0 0) [] := by
    refine ⟨?_, by simpa using hp1, World.ownsRow_nil _ _ _ _, fun j v h => by simp at h, by omega, by omega, Turns.set _ _ _ _ rfl, fun _ h => h⟩
    have := (HM.out.turns ht1 hne).set 0 (.slice A1 all.length c1)
    rwa [macC_set0] at this
  have HTU := Lib.hid (ht1.mono (fun k h => .inr h) : Turns (fun b => b = g ∨ hold held b) w w1)
  have HHB := Lib.hid (fun b (h : hold (.slice A1 all.length c1) b) => (by obtain ⟨off, n, c, h⟩ := h; injection h with e1 _ _; subst e1; exact hb1 b off _ _ rfl : w.heap.size ≤ b ∨ hold held b))
  have HALL := Lib.hid (fun _ : Unit => hall)
  have HI0 := Lib.hid inv0
  clear inv0 hp1 ht1 hb1 m1 f1 m0 hlen hall
  generalize w1.setCell ⟨g, 0, none⟩ (.slice A1 all.length c1) = w2 at *
  go_wp2_with fail
  go_loopg [5] (all.length / 16 + 1) (fun kq ov wr => ∃ (k : Nat) (hv : Value) (ps : List Value), kq + k = all.length / 16 + 1 ∧ FInv w1 wr g r0 r1 s0 s1 s2 a0 a1 a2 on all k (.slice A1 all.length c1) hv ov ps)
  case atStart => exact ⟨0, _, [], by omega, HI0.out⟩
  case round =>
    obtain ⟨k, hv, ps, hkq, inv⟩ := hrel
    have hpt := inv.held
    obtain ⟨L, hL⟩ : ∃ L, all.length - 16 * k = L := ⟨_, rfl⟩
    have hle := inv.le
    have hxl : (bs (all.drop (16 * k))).length = L := by rw [bs_len, List.length_drop, hL]
    have hel : Tryd.prog.underlying 30 = some (.slice (Tryd.prog.elem 30)) := by kernel_rfl
    have hsz : ∀ w, (sizeOf (Tryd.prog.elem 30)).run Tryd.prog w = .ok 1 w := fun w => by kernel_rfl
    have hlv : ∀ w', (Builtin.len_ #[30] 3 #[hv]).run Tryd.prog w' = .ok (goInt L) w' := by
      have := len_fact (P := Tryd.prog) hpt.rd (t := 30) (ty := 3) hel
      rwa [hxl] at this
    have m0 : wr.cell? ⟨g, 0, none⟩ = some hv := inv.mac.at_ 0 rfl
    have f0 := inv.mac.free 0
    have HI := Lib.hid inv
    clear HI0
    have hw1g : g < w1.heap.size := by omega
    by_cases hge : 16 ≤ L
    · have hge2 : (16 : Int) ≤ (L : Int) := by omega
      obtain ⟨A2, c2, A3, c3, hq2, hq3, p1, p2, p3, p4, p5⟩ := part_facts (P := Tryd.prog) hpt hel hsz 16 (by decide) (by rw [hxl]; exact hge)
      rw [hxl] at hq3 p3 p4 p5
      have HP5 := Lib.hid p5
      clear p5
      rw [show ((16 : Nat) : Int) = 16 from rfl] at p1 p2 p3 p4
      have HQ2 := Lib.hid hq2
      have HQ3 := Lib.hid hq3
      clear hel hsz hpt inv hq2 hq3 hxl
      go_upto_region 5 with (at_builtin; refine wp_app (.tmp 21) (.tmp 27) 34 rfl rfl 30 (.slice none 0 0) 24 Tryd.underlying34 info33 rfl w1.heap.size rfl (HI.out.out.alloc _) rfl (Rd.one _ _ _) (by intro y hy; simp at hy; subst hy; rfl) (by decide) (by simp; omega) (by have := HI.out.tu.size; simp; omega) ?_; intro v2 w3 hown2 _ hb2)
      have hm3 := (HI.out.mac.al (.cells #[.slice A2 16 c2] 30)).keep hb2 hw1g
      have m3 : w3.cell? ⟨g, 0, none⟩ = some hv := hm3.at_ 0 rfl
      have f3 := hm3.free 0
      have HM3 := Lib.hid hm3
      have HO3 := Lib.hid hown2
      have HB2 := Lib.hid hb2
      clear m0 f0 hm3 hown2 hb2
      go_wp2_with fail
      go_roundg (gk - 1)
      case measure => omega
      case rel =>
        have hps : ps.length = k := by
          have := HI.out.out.1
          rw [Nat.mul_one] at this
          exact this
        refine ⟨k + 1, .slice A3 (L - 16) c3, ps ++ [.slice A2 16 c2], by omega, ?_, ?_, ?_, ?_, by omega, hw1g, ?_, fun b h => HI.out.hh b (HP5.out b h)⟩
        · have := HM3.out.set 0 (.slice A3 (L - 16) c3)
          rwa [macC_set0] at this
        · have h := HQ3.out
          rwa [bs, ← List.map_drop, List.drop_drop, show 16 * k + 16 = 16 * (k + 1) by omega] at h
        · have h := HO3.out
          have h2 : w3.ownsRow w1.heap.size 30 1 v2 (k + 1) (ps ++ [.slice A2 16 c2]) := by simpa using h
          exact own_other h2 (show g < w1.heap.size from hw1g) _ _
        · intro j v' hj
          rcases Nat.lt_or_ge j ps.length with hjl | hjl
          · rw [List.getElem?_append_left hjl] at hj
            exact HI.out.pcs j v' hj
          · rw [List.getElem?_append_right hjl] at hj
            have hj0 : j = ps.length := by
              have := (List.getElem?_eq_some_iff.1 hj).1
              simp at this
              omega
            subst hj0
            rw [Nat.sub_self] at hj
            obtain rfl : Value.slice A2 16 c2 = v' := by simpa using hj
            refine ⟨?_, by omega⟩
            have h := HQ2.out
            rw [hps]
            rwa [bs, ← List.map_take] at h
        · exact (HI.out.tu.low (Below.trans (bw_al (Below.refl _ _) (Nat.le_refl _) _ |>.mono HI.out.tu.size) HB2.out)).trans (Turns.set _ _ _ _ rfl)
    · have hlt2 : ¬ (16 : Int) ≤ (L : Int) := by omega
      clear hel hsz hpt inv
      go_wp2_with fail
      all_goals go_ret
      have hkk : k = all.length / 16 := by omega
      refine ⟨_, w1, .slice A1 all.length c1, hv, ps, rfl, ?_, ?_, fun b h => HHB.out b (HI.out.hh b h)⟩
      · have h := HI.out
        rw [HALL.out (), ← hkk]
        exact h
      · exact HTU.out.trans (HI.out.tu.mono fun b hb => .inl hb)
end Go.Proofs.YtmjjnaaiakchhaaDoor
end

section
/-
  The reference's product.
-/
namespace Go.Proofs.YtmjjnaaiakchhaaDoor
open Go.RowKit

theorem own_of_blk {w : World} {g base : Nat} {cs : List Value} {e : TypeId} (h : Blk w g cs e) (hb : base ≤ g) (hm : cs.length ≤ 9223372036854775807) : w.ownsRow base e 1 (.slice (some ⟨g, 0, none⟩) cs.length cs.length) cs.length cs :=
  ⟨by simp, .inr ⟨g, cs.length, cs.toArray, rfl, hb, h, Nat.le_refl _, by unfold maxLen; omega, by simp, by simp⟩⟩
theorem blk_of_own {w : World} {base n : Nat} {e : TypeId} {xs : List Value} {g : Nat} (h : w.ownsRow base e 1 (.slice (some ⟨g, 0, none⟩) n n) n xs) : Blk w g xs e := by
  have hl := h.1
  rcases h.2 with ⟨h1, _⟩ | ⟨g', cap, cur, h1, _, hg, hn, hc, hs, ht⟩
  · cases h1
  · cases h1
    unfold Blk
    rw [hg]
    congr 2
    apply Array.toList_inj.1
    rw [← ht, List.take_of_length_le (by simp [hs])]
theorem ni_get (xs : List Int) (i : Nat) (h : i < xs.length) : (ni xs)[i]? = some (.int .i64 (xs.getD i 0)) := by simp [ni, List.getD_eq_getElem?_getD, h]
theorem ni_set (xs : List Int) (i : Nat) (y : Int) : (ni xs).set i (.int .i64 y) = ni (xs.set i y) := by simp [ni, List.map_set]
theorem ni_one (xs : List Int) : ∀ y ∈ ni xs, y.oneCell' = true := by
  intro y hy
  obtain ⟨x, _, rfl⟩ := List.mem_map.1 hy
  rfl
theorem Rd.cells {w : World} {v : Value} {xs : List Value} (h : Rd w v xs) (hl : 0 < xs.length) : ∃ b o c, v = .slice (some ⟨b, o, none⟩) xs.length c ∧ b < w.heap.size ∧ xs.length ≤ c ∧ c ≤ 9223372036854775807 ∧ ∀ w', Below w.heap.size w w' → ∀ j x, xs[j]? = some x → w'.cell? ⟨b, o + j, none⟩ = some x := by
  obtain ⟨A, c, rfl, h1, h2, _, h3⟩ := h
  rcases h3 with h3 | ⟨b, o, rfl, h3⟩
  · rw [h3] at hl; simp at hl
  · have hb := World.block_lt_of_cell? w _ (h3 0 hl)
    refine ⟨b, o, c, rfl, hb, h1, by unfold maxLen at h2; omega, fun w' hw j x hj => ?_⟩
    obtain ⟨hlt, rfl⟩ := List.getElem?_eq_some_iff.1 hj
    exact (hw.cell (p := ⟨b, o + j, none⟩) hb).trans (h3 j hlt)

structure TInv (w wr : World) (go : Nat) (zs : List Int) (m N : Int) : Prop where
  blk : Blk wr go (ni zs) 3
  len : zs.length = 40
  up : Upto m zs
  val : leV zs = N
  b : Below w.heap.size w wr

set_option maxRecDepth 100000 in
set_option maxHeartbeats 2000000 in
theorem times_any (w : World) (u v : Value) (xs ys : List Int) (hu : Num w u xs) (hv : Num w v ys) : Calls Tryd.prog 62 #[u, v] w (NumRes (leV (xs.take 20) * leV (ys.take 20)) w) := by
  obtain ⟨i, hi, hz0, hz1, hz2⟩ := info_parts info3
  obtain ⟨bu, ou, cu, rfl, hbu, hu1, hu2, hu3⟩ := hu.rd.cells (by rw [ni_len, hu.len]; decide)
  obtain ⟨bv, ov, cv, rfl, hbv, hv1, hv2, hv3⟩ := hv.rd.cells (by rw [ni_len, hv.len]; decide)
  rw [ni_len, hu.len] at hu1 ⊢
  rw [ni_len, hv.len] at hv1 ⊢
  have HU := Lib.hid hu
  have HV := Lib.hid hv
  have HU3 := Lib.hid hu3
  have HV3 := Lib.hid hv3
  clear hu hv hu3 hv3
  go_enter Tryd.func62, Tryd.ntmps62
  go_upto_region 2 with (refine wpList_make_full w rfl (.const (.int .i64 40)) (.const (.int .i64 40)) 98 rfl w.heap.size 3 i _ 1 Tryd.underlying98 hi hz0 hz1 .i64 .i64 _ _ 40 rfl rfl rfl rfl (by rw [hz2]; decide) (by decide) (Nat.le_refl _) ?_; intro w2 hown hgrow)
  have hb2 : Below w.heap.size w w2 := (Below.refl _ _).grown hgrow (Nat.le_refl _) (fun k h => by cases h)
  have hout : Blk w2 w.heap.size (ni (List.replicate 40 0)) 3 := by
    have h := blk_of_own hown
    rw [show (Value.cells (Value.int IntKind.i64 0)) = #[Value.int IntKind.i64 0] from rfl, Nat.mul_one, toList_madeCells_one] at h
    simpa [ni] using h
  obtain ⟨go, hgo⟩ : ∃ go, w.heap.size = go := ⟨_, rfl⟩
  rw [hgo] at hout hbu hbv
  simp only [hgo]
  have inv0 : TInv w w2 go (List.replicate 40 0) 0 0 := ⟨hout, by simp, upto_zeros _ (by decide) _, leV_zeros _, hb2⟩
  clear hown hgrow hb2 hout
  go_wp2_with fail
  go_loopw [6] (fun x wr => ∃ (i : Nat) (zs : List Int), i ≤ 20 ∧ x = .int .i64 i ∧ TInv w wr go zs (i * 1300500) (leV (xs.take i) * leV (ys.take 20))) (fun x _ => 20 - (intOf x).toNat)
  case atStart => exact ⟨0, _, by omega, rfl, by simpa [leV] using inv0⟩
  case round =>
    obtain ⟨i, zs, hi20, rfl, inv⟩ := hrel
    obtain ⟨wo, rfl⟩ : ∃ wo : World, wo = wr := ⟨_, rfl⟩
    by_cases hlt : i < 20
    · obtain ⟨x, hx⟩ : ∃ x, xs.getD i 0 = x := ⟨_, rfl⟩
      have hxr := HU.out.isB.at_ i
      rw [hx] at hxr
      have kx : ∀ w', Below w.heap.size w w' → w'.cell? ⟨bu, ou + i, none⟩ = some (.int .i64 x) := fun w' h => by
        rw [← hx]; exact HU3.out w' h i _ (ni_get xs i (by rw [HU.out.len]; omega))
      have HX := Lib.hid (fun _ : Unit => hx)
      have HINV := Lib.hid inv
      clear hx inv inv0
      go_wp2_with fail
      go_loopw [7] (fun y wr => ∃ (k : Nat) (zs : List Int), k ≤ 20 ∧ y = .int .i64 k ∧ TInv w wr go zs (i * 1300500 + k * 65025) (leV (xs.take i) * leV (ys.take 20) + 256 ^ i * (x * leV (ys.take k)))) (fun y _ => 20 - (intOf y).toNat)
      case atStart => exact ⟨0, zs, by omega, rfl, by simpa [leV] using HINV.out⟩
      case round =>
        obtain ⟨k, zs, hk20, rfl, inv⟩ := hrel
        by_cases hkl : k < 20
        · obtain ⟨y, hy⟩ : ∃ y, ys.getD k 0 = y := ⟨_, rfl⟩
          have hyr := HV.out.isB.at_ k
          rw [hy] at hyr
          have e1 := kx wr inv.b
          have e2 : wr.cell? ⟨bv, ov + k, none⟩ = some (.int .i64 y) := by rw [← hy]; exact HV3.out wr inv.b k _ (ni_get ys k (by rw [HV.out.len]; omega))
          obtain ⟨z, hz⟩ : ∃ z, zs.getD (i + k) 0 = z := ⟨_, rfl⟩
          have hzr := inv.up.at_ (by omega) (i + k)
          rw [hz] at hzr
          have e3 : wr.cell? ⟨go, i + k, none⟩ = some (.int .i64 z) := by rw [← hz]; exact inv.blk.at_ _ (ni_get zs (i + k) (by rw [inv.len]; omega))
          have e4 := inv.blk.free (i + k)
          have hik : (i : Int) + (k : Int) = ((i + k : Nat) : Int) := by omega
          obtain ⟨q, hq⟩ : ∃ q, i + k = q := ⟨_, rfl⟩
          rw [hq] at e3 e4 hik
          have hq40 : q < 40 := by omega
          have hxy : 0 ≤ x * y ∧ x * y ≤ 65025 := ⟨Int.mul_nonneg hxr.1 hyr.1, by
            have h1 : x * y ≤ 255 * y := Int.mul_le_mul_of_nonneg_right hxr.2 hyr.1
            omega⟩
          obtain ⟨p, hp⟩ : ∃ p, x * y = p := ⟨_, rfl⟩
          rw [hp] at hxy
          have hn1 : go ≠ bu := by omega
          have hn2 : go ≠ bv := by omega
          have inv2 : TInv w (wr.setCell ⟨go, q, none⟩ (.int .i64 (z + p))) go (zs.set q (z + p)) (i * 1300500 + (k + 1 : Nat) * 65025) (leV (xs.take i) * leV (ys.take 20) + 256 ^ i * (x * leV (ys.take (k + 1)))) := by
            refine ⟨?_, by rw [List.length_set]; exact inv.len, ?_, ?_, inv.b.setCell (by show w.heap.size ≤ go; omega) _⟩
            · have := inv.blk.set q (.int .i64 (z + p))
              rwa [ni_set] at this
            · exact (inv.up.mono (by omega)).set q (by omega)
            · have h1 := leV_set zs q p (by rw [inv.len]; omega)
              rw [← hq, hz, hq] at h1
              rw [h1, inv.val, leV_snoc ys k (by rw [HV.out.len]; omega), hy, ← hq, Int.pow_add, ← hp]
              rw [Int.mul_add x, Int.mul_add (256 ^ i), Int.add_assoc, Int.mul_assoc (256 ^ i) (256 ^ k), Int.mul_left_comm x (256 ^ k) y]
          have HI2 := Lib.hid inv2
          have hzp : 0 ≤ z + p ∧ z + p ≤ 9223372036854775807 := by omega
          clear inv inv2 hy hz hq
          go_wp2_with fail
          go_region
          go_wp2_with fail
          go_roundw
          case rel => exact ⟨k + 1, _, by omega, by go_num, HI2.out.blk.d1, HI2.out.len, HI2.out.up, HI2.out.val, bw_d1 HI2.out.b⟩
          case measure => simp [intOf]; omega
        · obtain rfl : k = 20 := by omega
          go_wp2_with fail
          refine ⟨⟨i + 1, zs, by omega, by go_num, ⟨inv.blk, inv.len, inv.up.mono (by omega), ?_, inv.b⟩⟩, by simp [intOf]; omega⟩
          rw [inv.val, leV_snoc xs i (by rw [HU.out.len]; omega), HX.out (), Int.add_mul, Int.mul_assoc]
    · obtain rfl : i = 20 := by omega
      have r1 := leV_range (xs := xs.take 20) fun z hz => HU.out.isB z (List.mem_of_mem_take hz)
      have r2 := leV_range (xs := ys.take 20) fun z hz => HV.out.isB z (List.mem_of_mem_take hz)
      rw [List.length_take, HU.out.len] at r1
      rw [List.length_take, HV.out.len] at r2
      have hpr : 0 ≤ leV (xs.take 20) * leV (ys.take 20) ∧ leV (xs.take 20) * leV (ys.take 20) < big40 := by
        refine ⟨Int.mul_nonneg r1.1 r2.1, ?_⟩
        generalize leV (xs.take 20) = a at *
        generalize leV (ys.take 20) = b at *
        have e20 : (256 : Int) ^ (min 20 40) = 1461501637330902918203684832716283019655932542976 := by decide
        rw [e20] at r1 r2
        have h1 : a * b ≤ 1461501637330902918203684832716283019655932542975 * b := Int.mul_le_mul_of_nonneg_right (by omega) r2.1
        unfold big40
        omega
      have hval := inv.val
      obtain ⟨N, hN⟩ : ∃ N, leV (xs.take 20) * leV (ys.take 20) = N := ⟨_, rfl⟩
      have HN := Lib.hid (fun _ : Unit => hN)
      rw [hN] at hpr hval
      have ho : wo.ownsRow w.heap.size 3 1 (.slice (some ⟨go, 0, none⟩) 40 40) 40 (ni zs) := by
        have := own_of_blk (base := w.heap.size) inv.blk (by omega) (by rw [ni_len, inv.len]; decide)
        rwa [ni_len, inv.len] at this
      have CA := Lib.hid (carry_any w wo inv.b _ zs inv.len (inv.up.mono (by decide)) ho)
      have HV2 := Lib.hid (fun _ : Unit => hval)
      clear inv ho r1 r2 hval hN
      go_wp2_with (go_at_call 74; refine CA.out.mono ?_; rintro e w9 ⟨v9, y9, rfl, h1, h2, h3⟩)
      all_goals go_ret
      exact ⟨_, y9, rfl, h1, by rw [h2, HV2.out (), HN.out ()]; exact Int.emod_eq_of_lt hpr.1 hpr.2, h3⟩
end Go.Proofs.YtmjjnaaiakchhaaDoor
end
