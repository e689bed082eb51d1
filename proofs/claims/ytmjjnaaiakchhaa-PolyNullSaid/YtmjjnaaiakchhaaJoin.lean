import Derived.Test.YtmjjnaaiakchhaaTimes
import Derived.Test.YtmjjnaaiakchhaaPolyN
import Derived.Test.YtmjjnaaiakchhaaSub
import Derived.Laws.CopyRow
/-
  poly.least.
-/
namespace Go.Proofs.Ytmjjnaaiakchhaa
open Go.RowKit

theorem foldV_small {N : Int} (h0 : 0 ≤ N) (h : N < 6277101735386680763835789423207666416102355444464034512896) : 0 ≤ foldV (foldV N) ∧ foldV (foldV N) < 1361129467683753853853498429727072845824 := by
  have a1 : 0 ≤ foldV N ∧ foldV N < 1361129467683753853876556859919285567488 := by
    unfold foldV
    omega
  generalize foldV N = M at *
  unfold foldV
  omega
theorem least_val {N : Int} (h0 : 0 ≤ N) (h : N < 1361129467683753853853498429727072845824) : N % pr = if N + 5 < 1361129467683753853853498429727072845824 then N else N + 5 - 1361129467683753853853498429727072845824 := by
  unfold pr
  split
  · exact Int.emod_eq_of_lt h0 (by omega)
  · omega

set_option maxRecDepth 100000 in
set_option maxHeartbeats 4000000 in
theorem least_any (w : World) (a0 a1 a2 : Int) (ha : IsW [a0, a1, a2]) : Calls Try.prog 27 #[.agg (uq [a0, a1, a2]).toArray] w fun e w' => ∃ l : List Int, e = .returned (.agg (uq l).toArray) ∧ l.length = 3 ∧ IsW l ∧ leW l = leW [a0, a1, a2] % pr ∧ Below w.heap.size w w' := by
  obtain ⟨B, hB⟩ : ∃ B, w.heap.size = B := ⟨_, rfl⟩
  have HA := Lib.hid ha
  have hv : 0 ≤ leW [a0, a1, a2] ∧ leW [a0, a1, a2] < 6277101735386680763835789423207666416102355444464034512896 := by
    have h0 := ha a0 (by simp)
    have h1 := ha a1 (by simp)
    have h2 := ha a2 (by simp)
    simp only [leW]
    omega
  obtain ⟨N, hN⟩ : ∃ N, leW [a0, a1, a2] = N := ⟨_, rfl⟩
  rw [hN] at hv
  have HV := Lib.hid (fun _ : Unit => hv)
  have HNN := Lib.hid (fun _ : Unit => hN)
  clear ha hv hN
  go_enter Try.func27, Try.ntmps27
  go_upto_region 1 with fail
  change Code.wp _ _ _ _ ((w.alloc (.cells (uq [a0, a1, a2]).toArray 49)).alloc (.cells (uq [0, 0, 0]).toArray 49))
  have b0 : Blk ((w.alloc (.cells (uq [a0, a1, a2]).toArray 49)).alloc (.cells (uq [0, 0, 0]).toArray 49)) B (uq [a0, a1, a2]) 49 := (Blk.mk_ _ hB.symm rfl).al _
  have b1 : Blk ((w.alloc (.cells (uq [a0, a1, a2]).toArray 49)).alloc (.cells (uq [0, 0, 0]).toArray 49)) (B + 1) (uq [0, 0, 0]) 49 := Blk.mk_ _ (by simp [hB]) rfl
  have bb : Below B w ((w.alloc (.cells (uq [a0, a1, a2]).toArray 49)).alloc (.cells (uq [0, 0, 0]).toArray 49)) := bw_al (bw_al (Below.refl _ _) (by omega) _) (by simp; omega) _
  generalize ((w.alloc (.cells (uq [a0, a1, a2]).toArray 49)).alloc (.cells (uq [0, 0, 0]).toArray 49)) = w1 at *
  have HB0 := Lib.hid (⟨b0, b1, bb⟩ : _ ∧ _ ∧ _)
  clear b0 b1 bb
  go_wp2_with fail
  go_loopw [4] (fun x wr => ∃ (k : Nat) (c0 c1 c2 : Int), k ≤ 2 ∧ x = .int .i64 k ∧ Blk wr B (uq [c0, c1, c2]) 49 ∧ Blk wr (B + 1) (uq [0, 0, 0]) 49 ∧ IsW [c0, c1, c2] ∧ ((k = 0 ∧ leW [c0, c1, c2] = N) ∨ (k = 1 ∧ leW [c0, c1, c2] = foldV N) ∨ (k = 2 ∧ leW [c0, c1, c2] = foldV (foldV N))) ∧ Below B w wr) (fun x _ => 2 - (intOf x).toNat)
  case atStart => exact ⟨0, a0, a1, a2, by decide, rfl, HB0.out.1, HB0.out.2.1, HA.out, .inl ⟨rfl, HNN.out ()⟩, HB0.out.2.2⟩
  case round =>
    obtain ⟨k, c0, c1, c2, hk, rfl, h0, h1, hw, hc, hbl⟩ := hrel
    have d0 := h0.at_ 0 rfl
    have d1 := h0.at_ 1 rfl
    have d2 := h0.at_ 2 rfl
    have H0 := Lib.hid h0
    have H1 := Lib.hid h1
    have HW := Lib.hid hw
    have HC := Lib.hid (fun _ : Unit => hc)
    have HBL := Lib.hid hbl
    have hwl := hbl.size
    have hB1 : B + 1 < wr.heap.size := h1.lt
    clear h0 h1 hw hc hbl HB0
    by_cases hlt : k < 2
    · have hw4' : IsW [c0, c1, c2, 0] := fun z hz => by
        rcases List.mem_append.1 (show z ∈ [c0, c1, c2] ++ [0] from hz) with h | h
        · exact HW.out z h
        · simp at h; subst h; exact ⟨Int.le_refl _, by decide⟩
      have FO := Lib.hid (foldw2_any wr c0 c1 c2 0 hw4')
      clear hw4'
      go_wp2_with (first
        | (go_at_call 38; refine FO.out.mono ?_; rintro e w3 ⟨f, rfl, hf1, hf2, hf3, hb3⟩; have HF := Lib.hid (fun _ : Unit => (⟨hf1, hf2, hf3⟩ : f.length = 3 ∧ IsW f ∧ leW f = foldV (leW [c0, c1, c2, 0]))); clear hf1 hf2 hf3)
        | (refine wp_store_blk rfl 49 (.tmp 1) (.tmp 13) rfl rfl rfl (cs' := uq f) (H0.out.stay hb3) (uq_one _) (by rw [uq_len, (HF.out ()).1]; rfl) (n := 3) (by kernel_rfl) (by rw [uq_len, (HF.out ()).1]) ?_; intro w5 hbx hon))
      obtain ⟨hf1, hf2, hf3⟩ := HF.out ()
      obtain ⟨f0, f1, f2, rfl⟩ : ∃ a b c, f = [a, b, c] := match f, hf1 with | [a, b, c], _ => ⟨a, b, c, rfl⟩
      refine ⟨⟨k + 1, f0, f1, f2, by omega, by go_num, hbx, (H1.out.stay hb3).only hon (by omega), hf2, ?_, hon.below (bw_then HBL.out hb3 (by omega)) (Nat.le_refl _)⟩, by simp [intOf]; omega⟩
      have e : leW [c0, c1, c2, 0] = leW [c0, c1, c2] := by simp only [leW]; omega
      rw [hf3, e]
      rcases HC.out () with ⟨rfl, h⟩ | ⟨rfl, h⟩ | ⟨rfl, h⟩
      · right; left; exact ⟨rfl, by rw [h]⟩
      · right; right; exact ⟨rfl, by rw [h]⟩
      · omega
    · obtain rfl : k = 2 := by omega
      have hcv : leW [c0, c1, c2] = foldV (foldV N) := by
        rcases HC.out () with ⟨h, _⟩ | ⟨h, _⟩ | ⟨_, h⟩
        · omega
        · omega
        · exact h
      have hsm := foldV_small (HV.out ()).1 (HV.out ()).2
      have hmod : foldV (foldV N) % pr = N % pr := by rw [foldV_mod, foldV_mod]
      rw [← hcv] at hsm hmod
      have h5 : IsW [5, 0, 0] := fun z hz => by simp at hz; omega
      have AD := Lib.hid (add_any wr [c0, c1, c2] [5, 0, 0] rfl rfl HW.out h5)
      obtain ⟨u0, u1, u2, hu⟩ : ∃ u0 u1 u2, addW [c0, c1, c2] [5, 0, 0] = [u0, u1, u2] := ⟨_, _, _, rfl⟩
      rw [hu] at AD
      have huw : IsW [u0, u1, u2] := by rw [← hu]; exact adK_isW HW.out 3
      have huv : leW [u0, u1, u2] = leW [c0, c1, c2] + 5 := by
        rw [← hu, addW_val rfl rfl HW.out h5 (by simp only [leW]; simp only [leW] at hsm; omega)]
        rfl
      have hu2 := huw u2 (by simp)
      have aw := w_and3 hu2
      have lv := least_val hsm.1 hsm.2
      have HU := Lib.hid (fun _ : Unit => (⟨huv, hsm, hmod, lv⟩ : leW [u0, u1, u2] = leW [c0, c1, c2] + 5 ∧ (0 ≤ leW [c0, c1, c2] ∧ leW [c0, c1, c2] < 1361129467683753853853498429727072845824) ∧ leW [c0, c1, c2] % pr = N % pr ∧ leW [c0, c1, c2] % pr = if leW [c0, c1, c2] + 5 < 1361129467683753853853498429727072845824 then leW [c0, c1, c2] else leW [c0, c1, c2] + 5 - 1361129467683753853853498429727072845824))
      have HUW := Lib.hid huw
      clear hcv hsm hmod h5 hu huv lv d0 d1 d2 huw
      go_upto_region 6 with (first
        | (refine wp_load_blk rfl 49 (.tmp 1) rfl rfl H0.out Try.underlying49 rfl (n := 3) (by kernel_rfl) rfl ?_)
        | (go_at_call 28; refine AD.out.mono ?_; rintro e w3 ⟨rfl, hb3⟩)
        | (refine wp_store_blk rfl 49 (.tmp 3) (.tmp 17) rfl rfl rfl (cs := uq [0, 0, 0]) (cs' := uq [u0, u1, u2]) (Blk.mk_ _ rfl rfl) (uq_one _) rfl (n := 3) (by kernel_rfl) rfl ?_; intro w5 hbx hon))
      obtain ⟨g3, hg3⟩ : ∃ g3, w3.heap.size = g3 := ⟨_, rfl⟩
      have hg3l : wr.heap.size ≤ g3 := by rw [← hg3]; exact hb3.size
      rw [hg3] at hbx hon
      simp only [hg3]
      have x0 := hbx.at_ 0 rfl
      have x1 := hbx.at_ 1 rfl
      have x2 := hbx.at_ 2 rfl
      have hb5 : Below g3 w3 w5 := hon.below (bw_al (Below.refl _ _) (by omega) _) (Nat.le_refl _)
      have k0 := (H0.out.stay hb3).keep hb5 (by omega)
      have k1 := (H1.out.stay hb3).keep hb5 (by omega)
      have bl5 : Below B w w5 := (bw_then HBL.out hb3 (by omega)).trans (hb5.mono (by omega))
      have K0 := Lib.hid k0
      have K1 := Lib.hid k1
      have BL5 := Lib.hid bl5
      clear hbx hon hb3 hb5 k0 k1 bl5
      have hu20 := hu2.1
      by_cases hbig : 0 < u2 / 4
      · go_wp2_with (refine wp_store_blk rfl 49 (.tmp 2) (.tmp 29) rfl rfl rfl (cs' := uq [u0, u1, u2 % 4]) K1.out (uq_one _) rfl (n := 3) (by kernel_rfl) rfl ?_; intro w6 hbx hon)
        refine ret_blk rfl rfl hbx Try.underlying49 rfl (n := 3) (by kernel_rfl) rfl rfl ?_
        obtain ⟨e1, e2, e3, e4⟩ := HU.out ()
        have y0 := HUW.out u0 (by simp)
        have y1 := HUW.out u1 (by simp)
        refine ⟨[u0, u1, u2 % 4], rfl, rfl, fun z hz => by simp at hz; omega, ?_, by first | (rw [hB]; exact hon.below BL5.out (by omega)) | exact hon.below BL5.out (by omega)⟩
        rw [HNN.out (), ← e3, e4]
        have hge : ¬ leW [c0, c1, c2] + 5 < 1361129467683753853853498429727072845824 := by rw [← e1]; simp only [leW]; omega
        rw [if_neg hge, ← e1]
        have hlt2 : leW [u0, u1, u2] < 1361129467683753853853498429727072845824 + 5 := by rw [e1]; omega
        simp only [leW] at hlt2 ⊢
        omega
      · go_wp2_with (first
          | (refine wp_load_blk rfl 49 (.tmp 1) rfl rfl K0.out Try.underlying49 rfl (n := 3) (by kernel_rfl) rfl ?_)
          | (refine wp_store_blk rfl 49 (.tmp 2) (.tmp 30) rfl rfl rfl (cs' := uq [c0, c1, c2]) K1.out (uq_one _) rfl (n := 3) (by kernel_rfl) rfl ?_; intro w6 hbx hon))
        refine ret_blk rfl rfl hbx Try.underlying49 rfl (n := 3) (by kernel_rfl) rfl rfl ?_
        obtain ⟨e1, e2, e3, e4⟩ := HU.out ()
        have y0 := HUW.out u0 (by simp)
        have y1 := HUW.out u1 (by simp)
        refine ⟨[c0, c1, c2], rfl, rfl, HW.out, ?_, by first | (rw [hB]; exact hon.below BL5.out (by omega)) | exact hon.below BL5.out (by omega)⟩
        rw [HNN.out (), ← e3, e4, if_pos]
        rw [← e1]
        simp only [leW]
        omega
end Go.Proofs.Ytmjjnaaiakchhaa

/-
  pack.Join of two.
-/
namespace Go.Proofs.Ytmjjnaaiakchhaa
open Go.RowKit PPolySum Go.Proofs.YtmjjnaaiakchhaaW.PrintWords Go.Proofs.YtmjjnaaiakchhaaW.PrintLast Go.Proofs.YtmjjnaaiakchhaaW.PrintMore

theorem join2_f (a b : List Int) (h : a.length + b.length < 1000000) : pack_Join.f 5 [a, b] = some (a ++ b) := by
  have r0 : rd_L1 [a, b] 0 = a := rfl
  have r1 : rd_L1 [a, b] 1 = b := rfl
  have w1 : wrap64 ((0 : Int) + 1) = 1 := by rw [w64 (by omega) (by omega)]; rfl
  have w2 : wrap64 ((1 : Int) + 1) = 2 := by rw [w64 (by omega) (by omega)]; rfl
  unfold pack_Join.f
  simp only [List.length_cons, List.length_nil]
  simp only [pack_Join.l0]
  rw [if_pos (by decide), if_pos (by decide), if_pos (by simp), r0, if_pos (by simp; omega), w1, if_pos (by decide), if_pos (by decide), if_pos (by simp), r1, if_pos (by simp; omega), w2, if_neg (by decide)]
  rfl
theorem join2_any (w : World) (g : Nat) (u v : Value) (t : TypeId) (a b : List Int) (hb : Blk w g [u, v] t) (hu : Rd w u (bs a)) (hv : Rd w v (bs b)) (hl : a.length + b.length < 1000000) :
    Calls Try.prog 29 #[.slice (some ⟨g, 0, none⟩) 2 2] w fun e w' => ∃ r, e = .returned r ∧ Rd w' r (bs (a ++ b)) ∧ Below w.heap.size w w' := by
  obtain ⟨A, c, hu1, hu2, _⟩ := id hu
  obtain ⟨A', c', hv1, hv2, _⟩ := id hv
  rw [bs_len] at hu1 hu2 hv1 hv2
  subst hu1 hv1
  have ku := kd_of_rd (k := .u8) hu
  have kv := kd_of_rd (k := .u8) hv
  have hc : Kd.C (Kd.slice 5 (Kd.int .u8)) w (some ⟨g, 0, none⟩) [a, b].length [a, b] := by
    refine ⟨rfl, by simp, fun _ => ⟨_, rfl, fun j p hj => ?_⟩⟩
    match j, hj with
    | 0, hj =>
      obtain rfl : a = p := by simpa using hj
      refine ⟨[.slice A a.length c], rfl, ⟨A, c, rfl, hu2, ku⟩, fun i x hi => ?_⟩
      have h0 : i = 0 := by have := (List.getElem?_eq_some_iff.1 hi).1; simp at this; exact this
      subst h0
      obtain rfl : Value.slice A a.length c = x := by simpa using hi
      exact hb.at_ 0 rfl
    | 1, hj =>
      obtain rfl : b = p := by simpa using hj
      refine ⟨[.slice A' b.length c'], rfl, ⟨A', c', rfl, hv2, kv⟩, fun i x hi => ?_⟩
      have h0 : i = 0 := by have := (List.getElem?_eq_some_iff.1 hi).1; simp at this; exact this
      subst h0
      obtain rfl : Value.slice A' b.length c' = x := by simpa using hi
      exact hb.at_ 1 rfl
    | j + 2, hj => simp at hj
  refine (pack_Join.calls 5 (some ⟨g, 0, none⟩) 2 [a, b] (a ++ b) w hc (by simp) (join2_f a b hl)).mono ?_
  rintro e w' ⟨r, rfl, h1, h2⟩
  exact ⟨r, rfl, rd_of_kd h1, h2⟩
end Go.Proofs.Ytmjjnaaiakchhaa

/-
  copy, as the walk takes it.
-/
namespace Go.Proofs.Ytmjjnaaiakchhaa
open Go.RowKit

theorem wp_copy {P : Program} {ops : Array Oper} {rest : List Oper} {o : Oper} {a : Act} {w : World} {Q : Exit → Act → World → Prop} (d s : Operand) (dT sT : TypeId) (hgd : o.guard = none)
    (ho : o.op = .call { callee := .builtin .copy, args := #[d, s], argTypes := #[dT, sT] }) (elem : TypeId) (hu : P.underlying dT = some (.slice elem)) (hs : (P.info? elem).map (·.size) = some 1)
    {g off dLen dCap : Nat} (hd : a.eval d = .slice (some ⟨g, off, none⟩) dLen dCap) {u : Value} {ys : List Value} (hx : a.eval s = u) (hr : Rd w u ys) (hne : 0 < ys.length) (hle : ys.length ≤ dLen)
    {cur : List Value} {t : TypeId} (hg : Blk w g cur t) (hfit : off + ys.length ≤ cur.length) (h1 : ∀ y ∈ ys, y.oneCell' = true)
    (h : ∀ w', Blk w' g (cur.take off ++ ys ++ cur.drop (off + ys.length)) t → Only g w w' → wpList P ops Q rest (a.put o.dst (goInt ys.length)) w') : wpList P ops Q (o :: rest) a w :=
  wpList_plain hgd fun K hK => by
    show o.upon P a K Q ((execOp a.eval o).run P w)
    obtain ⟨A, c, rfl, hc1, hc2, h0, h3⟩ := hr
    rcases h3 with rfl | ⟨b, o', rfl, h3⟩
    · simp at hne
    · have hrun := run_copy_row (P := P) w dT sT o.type elem g off dLen dCap ⟨b, o', none⟩ ys.length c cur.toArray t ys hu hs hg (Nat.min_eq_left hle).symm (by
        intro j y hj
        obtain ⟨hlt, rfl⟩ := List.getElem?_eq_some_iff.1 hj
        rw [← h3 j hlt]
        congr 1
        unfold Addr.add; split <;> simp_all) (by simpa using hfit) h1
      simp [execOp, ho, resolve, invoke, builtin, hd, hx, hrun, Result.andThen]
      exact hK _ _ (h _ (show _ = _ by simpa using setRow_heap w g cur.toArray (cur.take off ++ ys ++ cur.drop (off + ys.length)).toArray t (0, 0) hg) (Only.row w g _))
end Go.Proofs.Ytmjjnaaiakchhaa
