/-
  The statement DiskPower: whatever fuses there are, and acts, those go on that the reference lets go on; a power that no call made is off. No condition.
-/
import Derived.Test.YtlgcnnhlbkidmaaAwakeD
import Derived.Test.YtlgcnnhlbkidmaaPowerN
import Derived.Test.YtlgcnnhlbkidmaaKinds
namespace Go.Proofs.Ytlgcnnhlbkidmaa.lawDiskPower
open Go.ChangeShapes Go.WideShapes Go.ChangeAt Go.RowKit

/-- Where the loop stands. -/
structure PInv (B : Nat) (w wr : World) (p : Pow) (q : RPow) : Prop where
  bP : Blk wr B p.cells 92
  bQ : Blk wr (B + 1) q.cells 85
  rel : PowRel p q
  b : Below B w wr
theorem tdiv4_le {z : Int} (h : z ≤ 9223372036854775807) : z.tdiv 4 ≤ 9223372036854775807 := by
  rcases Int.le_total 0 z with h0 | h0
  · rw [Int.tdiv_eq_ediv_of_nonneg h0]; omega
  · obtain ⟨m, rfl⟩ : ∃ m, z = -m := ⟨-z, by omega⟩
    rw [Int.neg_tdiv, Int.tdiv_eq_ediv_of_nonneg (by omega)]; omega
theorem RPow.left_le {p : Pow} {q : RPow} (h : PowRel p q) : q.left ≤ 9223372036854775807 := by
  cases hb : p.bound
  · rw [h.none hb]; decide
  · rw [h.some hb]; exact h.ok.2

set_option maxRecDepth 100000 in
set_option maxHeartbeats 4000000 in
theorem walk (w : World) (v : Value) (zs : List Int) (hz : ∀ z ∈ zs, -9223372036854775808 ≤ z ∧ z ≤ 9223372036854775807) (hr : Rd w v (zs.map (Value.int .i64))) :
    Calls Try.prog 11 #[v] w fun e w' => e = .returned (.bool true) ∧ Below w.heap.size w w' := by
  have hmx := hr.len
  rw [List.length_map] at hmx
  obtain ⟨A, c, rfl, _⟩ := id hr
  rw [List.length_map] at hr ⊢
  have HR := Lib.hid hr; have HZ := Lib.hid hz
  clear hr hz
  go_enter Try.func11, Try.ntmps11
  by_cases hl : (60 : Int) < zs.length
  · go_wp2_with (go_at_call 50; refine (awake09_any w).mono ?_; rintro e w' ⟨rfl, hb'⟩)
    all_goals go_ret
    exact ⟨rfl, hb'⟩
  obtain ⟨B, hB⟩ : ∃ B, w.heap.size = B := ⟨_, rfl⟩
  go_upto_region 4 with (first
    | (go_at_call 42; refine (plug_any w).mono ?_; rintro e w1 ⟨rfl, hp1, hb1, hs1⟩)
    | (go_at_call 43; refine (rplug_any w1).mono ?_; rintro e w2 ⟨rfl, hp2, hb2, hs2⟩))
  rw [hB] at hp1 hb1 hs1
  rw [hs1] at hp2 hb2 hs2
  have hI0 : PInv B w w2 Pow.fresh ⟨false, -1⟩ := ⟨hp1.keep hb2 (by omega), hp2, PowRel.fresh, bw_then hb1 (by rw [hs1]; exact hb2) (by omega)⟩
  have HI0 := Lib.hid hI0; have HBB := Lib.hid (fun _ : Unit => hB)
  clear hp1 hb1 hs1 hp2 hb2 hs2 hI0 hB
  go_wp2_with fail
  go_loopw [5] (fun x wr => ∃ (i : Nat) (p : Pow) (q : RPow), i ≤ zs.length ∧ x = .int .i64 i ∧ PInv B w wr p q) (fun x _ => zs.length - (intOf x).toNat)
  case atStart => exact ⟨0, _, _, Nat.zero_le _, rfl, HI0.out⟩
  case round =>
    obtain ⟨i, p, q, hi, rfl, inv⟩ := hrel
    obtain ⟨wo, rfl⟩ : ∃ wo : World, wo = wr := ⟨_, rfl⟩
    by_cases hlt : i < zs.length
    · obtain ⟨z, hzz⟩ : ∃ z, zs[i] = z := ⟨_, rfl⟩
      obtain ⟨b, o, rfl, hc⟩ := Rd.get HR.out (j := i) (x := .int .i64 z) (by rw [List.getElem?_map, List.getElem?_eq_getElem hlt, hzz]; rfl)
      have hbw : b < B := by have h1 : b < w.heap.size := World.block_lt_of_cell? w _ hc; have := HBB.out (); omega
      have kc : ∀ w', Below B w w' → w'.cell? ⟨b, o + i, none⟩ = some (.int .i64 z) := fun w' h => (h.cell (p := ⟨b, o + i, none⟩) hbw).trans hc
      have hco := kc wo inv.b
      have hzb := HZ.out z (by rw [← hzz]; exact List.getElem_mem hlt)
      have hbP := inv.bP; have hbQ := inv.bQ
      have hql := RPow.left_le inv.rel
      have HI := Lib.hid inv
      clear inv hc hzz HI0
      obtain ⟨kr, hkr⟩ : ∃ kr, (IntKind.u64.wrap z).tmod 4 = kr := ⟨_, rfl⟩
      have hq4 := tdiv4_le hzb.2
      by_cases k0 : kr = 0
      · subst k0
        go_upto_region 12 with (go_at_call 45; refine (fuse_any p _ B wo hbP HI.out.rel.made).mono ?_; rintro e w2 ⟨rfl, f1, f2⟩)
        have bq2 := hbQ.only f2 (by omega)
        have b2 := Only.below HI.out.b f2 (Nat.le_refl _)
        have kc2 := kc _ b2
        clear hbQ
        go_upto_region 16 with (go_at_call 46; refine (rfuse_any q _ (B + 1) w2 bq2).mono ?_; rintro e w3 ⟨rfl, f3, f4⟩)
        have hI3 : PInv B w w3 (p.fuse (z.tdiv 4)) (q.fuse (z.tdiv 4)) := ⟨f1.only f4 (by omega), f3, HI.out.rel.fuse hq4, Only.below b2 f4 (by omega)⟩
        generalize p.fuse (z.tdiv 4) = p3 at *
        generalize q.fuse (z.tdiv 4) = q3 at *
        have HI3 := Lib.hid hI3
        obtain ⟨on3, hon⟩ : ∃ b, p3.on = b := ⟨_, rfl⟩
        have hof : q3.off = !on3 := by rw [← hon]; exact hI3.rel.off
        have y0 : ∀ w', Below w3.heap.size w3 w' → w'.cell? ⟨B + 1, 0, none⟩ = some (.bool (!on3)) := fun w' h => by rw [← hof]; exact (hI3.bQ.stay h).at_ 0 rfl
        have ON := on_any p3 B w3.drew (hI3.bP.d1)
        rw [hon] at ON
        have ON := Lib.hid ON
        have r3 : Below w3.heap.size w3 w3 := Below.refl _ _
        have r3d : Below w3.heap.size w3 w3.drew := bw_d1 (Below.refl _ _)
        have hIf : PInv B w w3.drew p3 q3 := ⟨hI3.bP.d1, hI3.bQ.d1, hI3.rel, bw_d1 hI3.b⟩
        have HIF := Lib.hid hIf
        clear hI3 hon hof hIf f1 f2 f3 f4 bq2 b2
        refine region_plan ⟨[0, 1, 0, 4, 12, 28, 63], [1], [0, 0, 0, 0, 0, 0, 1]⟩
          [⟨[0, 2, 3, 4, 5], [3, 4, 5], some 1⟩, ⟨[6], [3, 4, 5, 6], none⟩] 97 (by kernel_rfl) (by kernel_rfl) (by kernel_rfl) (by kernel_rfl) rfl ?_
        simp only [SeqGo, opsAt_cons, opsAt_nil, List.getElem?_cons, Option.toList_some, List.singleton_append, ↓reduceIte, Nat.reduceEqDiff, Nat.reduceSub]
        cases on3
        all_goals (
          go_wp2_with fail
          refine ⟨by (simp only [Sames, Same]; go_simp), ?_⟩
          go_wp2_with (go_at_call 53; refine ON.out.mono ?_; rintro e w4 ⟨rfl, hw4⟩; subst hw4)
          refine ⟨by (simp only [Sames, Same]; go_simp), ?_⟩
          go_wp2_with fail
          exact ⟨⟨i + 1, p3, q3, by omega, by simp, HIF.out⟩, by simp [intOf]; omega⟩)
      by_cases k1 : kr = 1
      · subst k1
        go_upto_region 15 with (go_at_call 47; refine (mend_any p B wo hbP HI.out.rel.made).mono ?_; rintro e w2 ⟨rfl, f1, f2⟩)
        have bq2 := hbQ.only f2 (by omega)
        have b2 := Only.below HI.out.b f2 (Nat.le_refl _)
        have q0 := bq2.at_ 0 rfl
        have q1 := bq2.at_ 1 rfl
        have qf0 := bq2.free 0
        have qf1 := bq2.free 1
        go_upto_region 16 with fail
        obtain ⟨w3, hw3⟩ : ∃ w3, (w2.setCell ⟨B + 1, 0, none⟩ (.bool false)).setCell ⟨B + 1, 1, none⟩ (.int .i64 (-1)) = w3 := ⟨_, rfl⟩
        rw [hw3]
        have f3 : Blk w3 (B + 1) (RPow.cells ⟨false, -1⟩) 85 := by rw [← hw3]; exact (bq2.set 0 _).set 1 _
        have f4 : Only (B + 1) w2 w3 := by rw [← hw3]; exact (Only.set _ _ _ _).trans (Only.set _ _ _ _)
        have hI3 : PInv B w w3 Pow.fresh ⟨false, -1⟩ := ⟨f1.only f4 (by omega), f3, PowRel.fresh, Only.below b2 f4 (by omega)⟩
        clear q0 q1 qf0 qf1 hw3
        generalize Pow.fresh = p3 at *
        generalize RPow.mk false (-1) = q3 at *
        have HI3 := Lib.hid hI3
        obtain ⟨on3, hon⟩ : ∃ b, p3.on = b := ⟨_, rfl⟩
        have hof : q3.off = !on3 := by rw [← hon]; exact hI3.rel.off
        have y0 : ∀ w', Below w3.heap.size w3 w' → w'.cell? ⟨B + 1, 0, none⟩ = some (.bool (!on3)) := fun w' h => by rw [← hof]; exact (hI3.bQ.stay h).at_ 0 rfl
        have ON := on_any p3 B w3.drew (hI3.bP.d1)
        rw [hon] at ON
        have ON := Lib.hid ON
        have r3 : Below w3.heap.size w3 w3 := Below.refl _ _
        have r3d : Below w3.heap.size w3 w3.drew := bw_d1 (Below.refl _ _)
        have hIf : PInv B w w3.drew p3 q3 := ⟨hI3.bP.d1, hI3.bQ.d1, hI3.rel, bw_d1 hI3.b⟩
        have HIF := Lib.hid hIf
        clear hI3 hon hof hIf f1 f2 f3 f4 bq2 b2
        refine region_plan ⟨[0, 1, 0, 4, 12, 28, 63], [1], [0, 0, 0, 0, 0, 0, 1]⟩
          [⟨[0, 2, 3, 4, 5], [3, 4, 5], some 1⟩, ⟨[6], [3, 4, 5, 6], none⟩] 97 (by kernel_rfl) (by kernel_rfl) (by kernel_rfl) (by kernel_rfl) rfl ?_
        simp only [SeqGo, opsAt_cons, opsAt_nil, List.getElem?_cons, Option.toList_some, List.singleton_append, ↓reduceIte, Nat.reduceEqDiff, Nat.reduceSub]
        cases on3
        all_goals (
          go_wp2_with fail
          refine ⟨by (simp only [Sames, Same]; go_simp), ?_⟩
          go_wp2_with (go_at_call 53; refine ON.out.mono ?_; rintro e w4 ⟨rfl, hw4⟩; subst hw4)
          refine ⟨by (simp only [Sames, Same]; go_simp), ?_⟩
          go_wp2_with fail
          exact ⟨⟨i + 1, p3, q3, by omega, by simp, HIF.out⟩, by simp [intOf]; omega⟩)
      have hm : (kr == 0) = false := by simpa using k0
      have hm1 : (kr == 1) = false := by simpa using k1
      have ha := HI.out.rel.act
      obtain ⟨ea, hea⟩ : ∃ ea, p.act.2 = ea := ⟨_, rfl⟩
      have AC := Lib.hid (act_any p B wo hbP HI.out.rel.ok)
      have RA := Lib.hid (fun (w2 : World) (bq2 : Blk w2 (B + 1) q.cells 85) => ract_any q (B + 1) w2 bq2 hql)
      rw [hea] at AC ha
      rw [← ha.2] at RA
      have HA := Lib.hid ha.1
      clear ha hea
      go_upto_region 16 with (first
        | (go_at_call 51; refine AC.out.mono ?_; rintro e w2 ⟨rfl, f1, f2⟩; have bq2 := hbQ.only f2 (by omega); have b2 := Only.below HI.out.b f2 (Nat.le_refl _))
        | (go_at_call 52; refine (RA.out w2 bq2).mono ?_; rintro e w3 ⟨rfl, f3, f4⟩))
      have hI3 : PInv B w w3 p.act.1 q.act.1 := ⟨f1.only f4 (by omega), f3, HA.out, Only.below b2 f4 (by omega)⟩
      generalize p.act.1 = p3 at *
      generalize q.act.1 = q3 at *
      have HI3 := Lib.hid hI3
      obtain ⟨on3, hon⟩ : ∃ b, p3.on = b := ⟨_, rfl⟩
      have hof : q3.off = !on3 := by rw [← hon]; exact hI3.rel.off
      have y0 : ∀ w', Below w3.heap.size w3 w' → w'.cell? ⟨B + 1, 0, none⟩ = some (.bool (!on3)) := fun w' h => by rw [← hof]; exact (hI3.bQ.stay h).at_ 0 rfl
      have ON := on_any p3 B w3.drew (hI3.bP.d1)
      rw [hon] at ON
      have ON := Lib.hid ON
      have r3 : Below w3.heap.size w3 w3 := Below.refl _ _
      have r3d : Below w3.heap.size w3 w3.drew := bw_d1 (Below.refl _ _)
      have hIf : PInv B w w3.drew p3 q3 := ⟨hI3.bP.d1, hI3.bQ.d1, hI3.rel, bw_d1 hI3.b⟩
      have HIF := Lib.hid hIf
      clear hI3 hon hof hIf f1 f2 f3 f4 bq2 b2
      refine region_plan ⟨[0, 1, 0, 4, 12, 28, 63], [1], [0, 0, 0, 0, 0, 0, 1]⟩
        [⟨[0, 2, 3, 4, 5], [3, 4, 5], some 1⟩, ⟨[6], [3, 4, 5, 6], none⟩] 97 (by kernel_rfl) (by kernel_rfl) (by kernel_rfl) (by kernel_rfl) rfl ?_
      simp only [SeqGo, opsAt_cons, opsAt_nil, List.getElem?_cons, Option.toList_some, List.singleton_append, ↓reduceIte, Nat.reduceEqDiff, Nat.reduceSub]
      cases on3
      all_goals (
        go_wp2_with fail
        refine ⟨by (simp only [Sames, Same]; go_simp), ?_⟩
        go_wp2_with (go_at_call 53; refine ON.out.mono ?_; rintro e w4 ⟨rfl, hw4⟩; subst hw4)
        refine ⟨by (simp only [Sames, Same]; go_simp), ?_⟩
        go_wp2_with fail
        exact ⟨⟨i + 1, p3, q3, by omega, by simp, HIF.out⟩, by simp [intOf]; omega⟩)
    · obtain rfl : i = zs.length := by omega
      have HI := Lib.hid inv
      clear inv HI0
      go_upto_region 19 with fail
      have hA1 : Blk ((wo.alloc (.cells Pow.none_.cells.toArray 92)).alloc (.cells #[.pointer none, .pointer (some ⟨wo.heap.size, 0, none⟩)] 59)) wo.heap.size Pow.none_.cells 92 := (Blk.mk_ wo rfl rfl).al _
      have hA2 : Blk ((wo.alloc (.cells Pow.none_.cells.toArray 92)).alloc (.cells #[.pointer none, .pointer (some ⟨wo.heap.size, 0, none⟩)] 59)) (wo.heap.size + 1) [.pointer none, .pointer (some ⟨wo.heap.size, 0, none⟩)] 59 := Blk.mk_ _ (by simp) rfl
      have hb2 : Below B w ((wo.alloc (.cells Pow.none_.cells.toArray 92)).alloc (.cells #[.pointer none, .pointer (some ⟨wo.heap.size, 0, none⟩)] 59)) := by
        have := HI.out.bP.lt
        exact bw_al (bw_al HI.out.b (by omega) _) (by simp; omega) _
      obtain ⟨w2, hw2⟩ : ∃ w2, (wo.alloc (.cells Pow.none_.cells.toArray 92)).alloc (.cells #[.pointer none, .pointer (some ⟨wo.heap.size, 0, none⟩)] 59) = w2 := ⟨_, rfl⟩
      change Code.wp _ _ _ _ ((wo.alloc (.cells Pow.none_.cells.toArray 92)).alloc (.cells #[.pointer none, .pointer (some ⟨wo.heap.size, 0, none⟩)] 59))
      rw [hw2] at hA1 hA2 hb2 ⊢
      obtain ⟨g2, hg2⟩ : ∃ g, wo.heap.size = g := ⟨_, rfl⟩
      have hgB : B ≤ g2 := by have := HI.out.bP.lt; omega
      rw [hg2] at hA1 hA2 ⊢
      have HB2 := Lib.hid hb2; have HA1 := Lib.hid hA1; have HA2 := Lib.hid hA2
      clear hA1 hA2 hb2 hw2 hg2
      go_wp2_with fail
      go_loopw [7] (fun x wr => ∃ (k : Nat), k ≤ 2 ∧ x = .int .i64 k ∧ Blk wr g2 Pow.none_.cells 92 ∧ Only g2 w2 wr) (fun x _ => 2 - (intOf x).toNat)
      case atStart => exact ⟨0, Nat.zero_le _, rfl, HA1.out, Only.refl _ _⟩
      case round =>
        obtain ⟨k, hk, rfl, hb, ho⟩ := hrel
        obtain ⟨wq, rfl⟩ : ∃ wq : World, wq = wr := ⟨_, rfl⟩
        have hA3 := HA2.out.only ho (by omega)
        have x0 := hA3.at_ 0 rfl
        have x1 := hA3.at_ 1 rfl
        have A1 := act_any Pow.none_ g2 wq hb ⟨Int.le_refl _, by decide⟩
        rw [show Pow.none_.act = (Pow.none_, 8) from rfl] at A1
        have FN := Lib.hid (fuse_no wq g2 3 hb)
        have MN := Lib.hid (mend_no wq g2 hb)
        have O1 := Lib.hid (on_any Pow.none_ g2 wq hb); have A1 := Lib.hid A1; have HB := Lib.hid hb; have HO := Lib.hid ho
        clear hb ho hA3
        rcases (show k = 0 ∨ k = 1 ∨ k = 2 by omega) with rfl | rfl | rfl
        · go_wp2_with (first
            | (go_at_call 45; refine (fuse_nil _ _).mono ?_; rintro e w9 ⟨rfl, hw9⟩; subst hw9)
            | (go_at_call 47; refine (mend_nil _).mono ?_; rintro e w9 ⟨rfl, hw9⟩; subst hw9)
            | (go_at_call 53; refine (on_nil _).mono ?_; rintro e w9 ⟨rfl, hw9⟩; subst hw9)
            | (go_at_call 51; refine (act_nil _).mono ?_; rintro e w9 ⟨rfl, hw9⟩; subst hw9))
          exact ⟨⟨1, by omega, rfl, HB.out, HO.out⟩, by simp [intOf]⟩
        · go_wp2_with (first
            | (go_at_call 45; refine FN.out.mono ?_; rintro e w9 ⟨rfl, hw9⟩; subst hw9)
            | (go_at_call 47; refine MN.out.mono ?_; rintro e w9 ⟨rfl, hw9⟩; subst hw9)
            | (go_at_call 53; refine O1.out.mono ?_; rintro e w9 ⟨rfl, hw9⟩; subst hw9)
            | (go_at_call 51; refine A1.out.mono ?_; rintro e w9 ⟨rfl, hb9, ho9⟩))
          exact ⟨⟨2, by omega, rfl, hb9, HO.out.trans ho9⟩, by simp [intOf]⟩
        · have hb3 : Below B w wq := Only.below HB2.out HO.out hgB
          have HB3 := Lib.hid hb3
          clear hb3
          go_wp2_with (go_at_call 50; refine (awake09_any _).mono ?_; rintro e w' ⟨rfl, hb'⟩)
          all_goals go_ret
          exact ⟨rfl, bw_then (by rw [HBB.out ()]; exact HB3.out) hb' (by have := HB3.out.size; have := HBB.out (); have := HA1.out.lt; have := HO.out.size; omega)⟩

set_option maxRecDepth 100000 in
theorem contract (H : Type) (enc : TypeId × Value → H) (W : World) (base : Nat) (args : Array Value) (ds gs : List (DataW H)) (before : List MemPlace)
    (hval : ∀ (j : Nat) t v, Try.f11.params[j]? = some t → args[j]? = some v → Value.okWide Try.prog W .any base t v)
    (hW : DataW.Whole enc Try.prog Try.f11.params.toList Rows.diskPowerSpec.vars false W args.toList ds gs before) :
    Calls Try.prog 11 args W fun e W' => ∃ v, e = .returned v ∧ Rows.diskPowerSpec.post enc Try.prog Try.f11 false true false false W args v W' := by
  have hW' := hW
  obtain ⟨p, q, hA0, hV, rfl, hfz, hnd⟩ := hW
  have hA : DataW.TrodAll enc Try.prog W 0 (fun _ => true) true Try.f11.params.toList args.toList ds p := hA0
  rw [Try.params11] at hA hval
  obtain ⟨v0, vs0, d0, ds0, p0, q0, hargs0, rfl, rfl, h0, r0⟩ := trodAll_cons hA
  obtain ⟨e9, e8, e7⟩ := trodAll_nil r0
  subst e9 e8 e7
  obtain rfl : args = #[v0] := by cases args; simp_all
  obtain ⟨rfl, rfl⟩ := trodVars_none hV
  have hv0 := hval 0 _ v0 rfl rfl
  clear hA0
  obtain ⟨fuel0, hf0⟩ := h0
  rw [one_of_ok Try.underlying88 rfl hv0] at hf0
  obtain ⟨u0, zs0, hcs0, hz0, hr0⟩ := ints_of_trod Try.underlying88 Try.underlying3 (by kernel_rfl) hf0
  obtain rfl : v0 = u0 := by simpa using hcs0
  refine (walk W v0 zs0 hz0 hr0).mono fun e W' ⟨he, hb⟩ => ⟨_, he, ?_⟩
  exact law_post Try.laidOut (by kernel_rfl) (by kernel_rfl) Try.underlying4 rfl rfl rfl rfl hW' hb

set_option maxRecDepth 100000 in
theorem lifted (os : Os) (started : os.Started) (H : Type) (enc : TypeId × Value → H) (F : Stop.Interp) :
    ReturnsInHanded {} Try.checked os 11 .any ((OpenSpec.ofChange Rows.diskPowerSpec).preRow enc Try.prog Try.f11 Rows.diskPowerRow.domain false Rows.diskPowerRow.laid) (((OpenSpec.ofChange Rows.diskPowerSpec).at F).post enc Try.prog Try.f11 false true false false) := by
  obtain ⟨places, hx⟩ : ∃ places, DataW.whole enc Try.prog ((World.holding Try.prog os ⟨#[], #[], []⟩).forCall (fun _ _ => 0) ⟨#[], #[.slice none 0 0], []⟩).memory Try.f11.params.toList Rows.diskPowerSpec.vars false #[.slice none 0 0].toList 8 = some ([.nil], [], places) := ⟨[], by kernel_rfl⟩
  refine returnsInHanded_of_row (C := Try.checked) (s := OpenSpec.ofChange Rows.diskPowerSpec) Try.own started (by kernel_rfl) Try.func11
    (witness_row_at (enc := enc) (C := Try.checked) false (World.holding Try.prog os ⟨#[], #[], []⟩) #[.slice none 0 0] rfl (by kernel_rfl) (by kernel_rfl) (by kernel_rfl)
      (OpenSpec.preRow_of_cond 8 hx (by kernel_rfl) (fun k hk => by cases hk) (by kernel_rfl) (laid_none _ _))) ?_
  intro W base args ds gs before hval hW _ _ _ _ _ _
  exact contract H enc W base args ds gs before hval hW

theorem proved : Rows.DiskPowerSaid :=
  OpenClaim.holds_of_cond 11 Try.f11 rfl rfl rfl rfl rfl rfl rfl ⟨rfl, rfl, rfl, rfl, rfl⟩ rfl rfl rfl rfl rfl (by kernel_rfl) Try.func11 (by kernel_rfl)
    (of_decide_eq_true (by kernel_rfl)) (by unfold Func.isWrapper; first | (rw [if_pos (by decide +kernel)]; kernel_rfl) | (rw [if_neg (by decide +kernel)]; exact ⟨rfl, rfl⟩))
    (fun os started H enc _ F => by rw [OpenClaim.pre_eq_preRow]; exact lifted os started H enc F)
end Go.Proofs.Ytlgcnnhlbkidmaa.lawDiskPower
