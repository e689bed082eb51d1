/-
  The statement PipeNobody: an end that no call made does nothing, and what is too long is refused. The tables that the program lays are as they were laid.
-/
import Derived.Test.YtdgpchacfdlleaaDoorPn6
import Derived.Test.YtdgpchacfdlleaaDoorCards
import Derived.Test.YtdgpchacfdlleaaDoorTie
namespace Go.Proofs.YtdgpchacfdlleaaDoor.lawPipeNobody
open Go.ChangeShapes Go.WideShapes Go.ChangeAt Go.RowKit

set_option maxRecDepth 100000 in
set_option maxHeartbeats 4000000 in
theorem walk (w : World) (v : Value) (xs : List Int) (side more : Int) (hr : Rd w v (bs xs)) (hB : IsB xs) (hm : 0 ≤ more ∧ more ≤ 255) :
    Calls Tryd.prog 14 #[v, .int .i64 side, .int .u8 more] w fun e w' => e = .returned (.bool true) ∧ Below w.heap.size w w' := by
  obtain ⟨Z, hZ⟩ : ∃ z, w.heap.size = z := ⟨_, rfl⟩
  obtain ⟨A, c, rfl, -⟩ := id hr
  simp only [bs_len] at hr ⊢
  obtain ⟨n, hn⟩ : ∃ n, xs.length = n := ⟨_, rfl⟩
  rw [hn] at hr ⊢
  have HR := Lib.hid hr; have HB := Lib.hid hB; have HN := Lib.hid (fun _ : Unit => hn)
  clear hr hB hn
  go_enter Tryd.func14, Tryd.ntmps14
  by_cases hlong : 500 < n
  · go_wp2_with (go_at_call 31; refine (awake23_any _).mono ?_; rintro e w' ⟨rfl, hb'⟩)
    all_goals (try go_ret)
    exact ⟨rfl, by first | exact hb' | (rw [← hZ]; exact hb') | (rw [hZ] at hb'; exact hb')⟩
  have HLN := Lib.hid (show n ≤ 500 by omega)
  have PSW := pw_short xs (by rw [HN.out ()]; omega)
  go_upto_region 4 with fail
  obtain ⟨w4, hw4⟩ : ∃ w4, (w.alloc (.cells #[.pointer none, .int .i64 0, .int .i64 0, .int .i64 0, .int .i64 0, .int .i64 0, .int .i64 0, .int .i64 0, .int .i64 0, .int .i64 0, .int .i64 0, .int .i64 0, .int .i64 0, .int .i64 0, .int .i64 0, .int .i64 0, .int .i64 0, .int .i64 0, .bool false] 119)).alloc (.cells #[.pointer none, .pointer (some ⟨Z, 0, none⟩)] 65) = w4 := ⟨_, rfl⟩
  have hB4 : Blk w4 Z zeroPipe 119 := by rw [← hw4]; exact (Blk.mk_ _ hZ.symm rfl).al _
  have hC4 : Blk w4 (Z + 1) [.pointer none, .pointer (some ⟨Z, 0, none⟩)] 65 := by rw [← hw4]; exact Blk.mk_ _ (by simp [hZ]) rfl
  have hl4 : Below Z w w4 := by rw [← hw4]; exact bw_al (bw_al (Below.refl _ _) (by omega) _) (by simp; omega) _
  have hs4 : Z ≤ w4.heap.size := by rw [← hw4]; simp; omega
  rw [hw4]
  have HB4 := Lib.hid hB4; have HL4 := Lib.hid hl4; have HS4 := Lib.hid hs4; have HC4 := Lib.hid hC4
  clear hB4 hC4 hl4 hs4 hw4 hlong PSW
  go_wp2_with fail
  go_loopw [8] (fun x wr => ∃ (k : Nat), k ≤ 2 ∧ x = .int .i64 k ∧ Below w4.heap.size w4 wr) (fun x _ => 2 - (intOf x).toNat)
  case atStart => exact ⟨0, Nat.zero_le _, rfl, Below.refl _ _⟩
  case round =>
    obtain ⟨k, hk, rfl, hq⟩ := hrel
    obtain ⟨wq, rfl⟩ : ∃ wq : World, wq = wr := ⟨_, rfl⟩
    have HQ := Lib.hid hq
    rcases (show k = 0 ∨ k = 1 ∨ k = 2 by omega) with rfl | rfl | rfl
    · have z0 : wq.cell? ⟨Z + 1, 0, none⟩ = some (.pointer none) := (HC4.out.stay hq).at_ 0 rfl
      have DD := Lib.hid (show DeadP wq (.pointer none) from .inl rfl)
      obtain ⟨v0, hv0⟩ : ∃ v0, Value.pointer none = v0 := ⟨_, rfl⟩
      rw [hv0] at z0 DD
      clear hv0 hq
      go_wp2_with (first
        | (go_at_call 34; refine (pSeal_dead wq v0 DD.out _).mono ?_; rintro e w9 ⟨rfl, hw⟩; subst hw)
        | (go_at_call 35; refine (pOpen_dead wq v0 DD.out _).mono ?_; rintro e w9 ⟨rfl, hw⟩; subst hw)
        | (go_at_call 40; refine (pClose_dead wq v0 DD.out).mono ?_; rintro e w9 ⟨rfl, hw⟩; subst hw)
        | (go_at_call 36; refine (counts_dead wq v0 DD.out).mono ?_; rintro e w9 ⟨rfl, m9⟩; have z9 : w9.cell? ⟨Z + 1, 0, none⟩ = some v0 := cell_stay m9 z0)
        | (go_at_call 37; refine (pup_dead w9 v0 (DD.out.stay m9)).mono ?_; rintro e wb ⟨rfl, hw⟩; subst hw))
      exact ⟨⟨1, by omega, rfl, bw_next HQ.out m9⟩, by simp [intOf]⟩
    · have z0 : wq.cell? ⟨Z + 1, 1, none⟩ = some (.pointer (some ⟨Z, 0, none⟩)) := (HC4.out.stay hq).at_ 1 rfl
      have DD := Lib.hid (show DeadP wq (.pointer (some ⟨Z, 0, none⟩)) from .inr ⟨Z, rfl, HB4.out.stay hq⟩)
      obtain ⟨v0, hv0⟩ : ∃ v0, Value.pointer (some ⟨Z, 0, none⟩) = v0 := ⟨_, rfl⟩
      rw [hv0] at z0 DD
      clear hv0 hq
      go_wp2_with (first
        | (go_at_call 34; refine (pSeal_dead wq v0 DD.out _).mono ?_; rintro e w9 ⟨rfl, hw⟩; subst hw)
        | (go_at_call 35; refine (pOpen_dead wq v0 DD.out _).mono ?_; rintro e w9 ⟨rfl, hw⟩; subst hw)
        | (go_at_call 40; refine (pClose_dead wq v0 DD.out).mono ?_; rintro e w9 ⟨rfl, hw⟩; subst hw)
        | (go_at_call 36; refine (counts_dead wq v0 DD.out).mono ?_; rintro e w9 ⟨rfl, m9⟩; have z9 : w9.cell? ⟨Z + 1, 1, none⟩ = some v0 := cell_stay m9 z0)
        | (go_at_call 37; refine (pup_dead w9 v0 (DD.out.stay m9)).mono ?_; rintro e wb ⟨rfl, hw⟩; subst hw))
      exact ⟨⟨2, by omega, rfl, bw_next HQ.out m9⟩, by simp [intOf]⟩
    · clear hq
      go_upto_region 14 with (go_at_call 17; refine (newU w4 wq _ [] true (Rd.nil _) isB_nil (by decide) HQ.out).mono ?_; rintro e w5 ⟨gb, own, rfl, hu5, -, -⟩)
      have U5 := Lib.hid hu5
      clear hu5
      go_upto_region 15 with (first
        | (go_at_call 33; refine (keys23_any _).mono ?_; rintro e w6 ⟨rfl, m6⟩)
        | (go_at_call 50; refine (wide23_any _).mono ?_; rintro e w7 ⟨rfl, m7⟩)
        | (go_at_call 32; refine (pnew_any R0 (Kind.ideal _) (U5.out.stay (bw_next m6 m7)) k23 0 (by decide) (k23_ok 0 (by decide)) 0 1000 0 0 0 1000 0).mono ?_; rintro e w8 ⟨g0, rfl, l8, u8, m8⟩))
      have U8 := Lib.hid u8
      clear m6 m7 l8 u8 m8
      obtain ⟨M, hM⟩ : ∃ M : Nat, (60001 : Int) + more = (M : Int) := ⟨(60001 + more).toNat, by omega⟩
      have HM := Lib.hid (show 60001 ≤ M ∧ M ≤ 61000 by omega)
      have mk := fun w => mk_bytes w M (by omega)
      go_upto_region 16 with (go_at_call 34; have h0 := bw_al (Below.refl w8.heap.size w8) (Nat.le_refl _) (.cells (bs (List.replicate M 0)).toArray 5); have rd0 := Rd.of_blk (w := w8.alloc (.cells (bs (List.replicate M 0)).toArray 5)) (cs := bs (List.replicate M 0)) (Blk.mk_ _ rfl rfl) (by rw [bs_len, List.length_replicate]; have := HM.out; omega); rw [bs_len, List.length_replicate] at rd0; have C := pSeal_any R0 (Kind.ideal _) (U8.out.stay h0) few80 (newP_in k23 0 1000 1000 k23_in (by decide)) _ (List.replicate M 0) rd0 (by intro z hz; have := (List.mem_replicate.1 hz).2; omega); rw [show newP k23 0 1000 1000 = P230 from rfl, pw_long _ _ _ _ _ (by rw [List.length_replicate]; have := HM.out; omega)] at C; refine C.mono ?_; rintro e w9 ⟨v9, own9, rfl, -, -, r3, -, -, -⟩; clear C rd0 h0)
      have U9 := Lib.hid r3
      clear r3 mk
      have rd9 := (HR.out.stay HL4.out (by omega)).stay U9.out.box.low (Nat.le_refl _)
      have PS := Lib.hid (by have C := pSeal_any R0 (Kind.ideal _) U9.out few80 ⟨k23_in, by decide, by decide, by decide, by decide, by decide⟩ _ xs rd9 HB.out; rw [pw_short xs (by rw [HN.out ()]; exact HLN.out)] at C; exact C)
      obtain ⟨st', hst'⟩ : ∃ st', (psealF R0 [] true BoxI.new P230 1 xs).2.2.1 = st' := ⟨_, rfl⟩
      obtain ⟨P', hP'⟩ : ∃ P', (psealF R0 [] true BoxI.new P230 1 xs).2.2.2 = P' := ⟨_, rfl⟩
      rw [hst', hP'] at PS
      clear rd9 hst' hP'
      go_upto_region 17 with (go_at_call 34; refine PS.out.mono ?_; rintro e wa ⟨va, owna, rfl, -, -, r3, -, -, -⟩)
      have Ua := Lib.hid r3.box
      clear r3 PS
      have tk1 : True := trivial; have tk2 : True := trivial; have tk3 : True := trivial; have tk4 : True := trivial
      rcases (show side = 0 ∨ side = 1 ∨ (side < 0 ∨ 1 < side) by omega) with rfl | rfl | hsd
      · go_wp2_with (first
          | (have _t := tk1; clear _t tk1; go_at_call 33; refine (keys23_any _).mono ?_; rintro e w6 ⟨rfl, m6⟩)
          | (have _t := tk2; clear _t tk2; go_at_call 50; refine (wide23_any _).mono ?_; rintro e w7 ⟨rfl, m7⟩)
          | (have _t := tk3; clear _t tk3; go_at_call 32; refine (pnew_any R0 (Kind.ideal _) (Ua.out.stay (bw_next m6 m7)) k23 0 (by decide) (k23_ok 0 (by decide)) 0 1000 0 0 0 1000 0).mono ?_; rintro e wb ⟨gn, rfl, -, -, mb⟩)
          | (have _t := tk4; clear _t tk4; go_at_call 33; refine (keys23_any _).mono ?_; rintro e wc ⟨rfl, mc⟩)
          | (go_at_call 50; refine (wide23_any _).mono ?_; rintro e wd ⟨rfl, md⟩)
          | (go_at_call 32; refine (pnew_nil _ _ _ _ _ _ _ _ _ _ _ _).mono ?_; rintro e we ⟨rfl, me⟩)
          | (go_at_call 31; refine (awake23_any _).mono ?_; rintro e wf ⟨rfl, mf⟩))
        all_goals (try go_ret)
        have := (Ua.out.stay (bw_next (bw_next (bw_next (bw_next (bw_next (bw_next m6 m7) mb) mc) md) me) mf)).low
        exact ⟨rfl, by have h2 := HL4.out; rw [← hZ] at h2; exact h2.trans (this.mono (by have := HS4.out; omega))⟩
      · go_wp2_with (first
          | (have _t := tk1; clear _t tk1; go_at_call 33; refine (keys23_any _).mono ?_; rintro e w6 ⟨rfl, m6⟩)
          | (have _t := tk2; clear _t tk2; go_at_call 50; refine (wide23_any _).mono ?_; rintro e w7 ⟨rfl, m7⟩)
          | (have _t := tk3; clear _t tk3; go_at_call 32; refine (pnew_any R0 (Kind.ideal _) (Ua.out.stay (bw_next m6 m7)) k23 1 (by decide) (k23_ok 1 (by decide)) 0 1000 0 0 0 1000 0).mono ?_; rintro e wb ⟨gn, rfl, -, -, mb⟩)
          | (have _t := tk4; clear _t tk4; go_at_call 33; refine (keys23_any _).mono ?_; rintro e wc ⟨rfl, mc⟩)
          | (go_at_call 50; refine (wide23_any _).mono ?_; rintro e wd ⟨rfl, md⟩)
          | (go_at_call 32; refine (pnew_nil _ _ _ _ _ _ _ _ _ _ _ _).mono ?_; rintro e we ⟨rfl, me⟩)
          | (go_at_call 31; refine (awake23_any _).mono ?_; rintro e wf ⟨rfl, mf⟩))
        all_goals (try go_ret)
        have := (Ua.out.stay (bw_next (bw_next (bw_next (bw_next (bw_next (bw_next m6 m7) mb) mc) md) me) mf)).low
        exact ⟨rfl, by have h2 := HL4.out; rw [← hZ] at h2; exact h2.trans (this.mono (by have := HS4.out; omega))⟩
      · have n0 : (side != 0) = true := by simp; omega
        have n1 : (side != 1) = true := by simp; omega
        go_wp2_with (first
          | (have _t := tk1; clear _t tk1; go_at_call 33; refine (keys23_any _).mono ?_; rintro e w6 ⟨rfl, m6⟩)
          | (have _t := tk2; clear _t tk2; go_at_call 50; refine (wide23_any _).mono ?_; rintro e w7 ⟨rfl, m7⟩)
          | (have _t := tk3; clear _t tk3; go_at_call 32; refine (pnew_side R0 (Kind.ideal _) (Ua.out.stay (bw_next m6 m7)) side hsd 1 2 3 0 1000 0 0 0 1000 0).mono ?_; rintro e wb ⟨rfl, mb⟩)
          | (have _t := tk4; clear _t tk4; go_at_call 33; refine (keys23_any _).mono ?_; rintro e wc ⟨rfl, mc⟩)
          | (go_at_call 50; refine (wide23_any _).mono ?_; rintro e wd ⟨rfl, md⟩)
          | (go_at_call 32; refine (pnew_nil _ _ _ _ _ _ _ _ _ _ _ _).mono ?_; rintro e we ⟨rfl, me⟩)
          | (go_at_call 31; refine (awake23_any _).mono ?_; rintro e wf ⟨rfl, mf⟩))
        all_goals (try go_ret)
        have := (Ua.out.stay (bw_next (bw_next (bw_next (bw_next (bw_next (bw_next m6 m7) mb) mc) md) me) mf)).low
        exact ⟨rfl, by have h2 := HL4.out; rw [← hZ] at h2; exact h2.trans (this.mono (by have := HS4.out; omega))⟩

set_option maxRecDepth 100000 in
theorem contract (H : Type) (enc : TypeId × Value → H) (W : World) (base : Nat) (args : Array Value) (ds gs : List (DataW H)) (before : List MemPlace)
    (hval : ∀ (j : Nat) t v, Tryd.f14.params[j]? = some t → args[j]? = some v → Value.okWide Tryd.prog W .any base t v)
    (hW : DataW.Whole enc Tryd.prog Tryd.f14.params.toList Rows.pipeNobodySpec.vars false W args.toList ds gs before) (_hL : laidMetH Tryd.prog Rows.pipeNobodyRow.laid W) :
    Calls Tryd.prog 14 args W fun e W' => ∃ v, e = .returned v ∧ Rows.pipeNobodySpec.post enc Tryd.prog Tryd.f14 false true false false W args v W' := by
  have hW' := hW
  obtain ⟨p, q, hA0, hV, rfl, hfz, hnd⟩ := hW
  have hA : DataW.TrodAll enc Tryd.prog W 0 (fun _ => true) true Tryd.f14.params.toList args.toList ds p := hA0
  rw [Tryd.params14] at hA hval
  obtain ⟨v0, vs0, d0, ds0, p0, q0, hargs0, rfl, rfl, h0, r0⟩ := trodAll_cons hA
  obtain ⟨v1, vs1, d1, ds1, p1, q1, hargs1, e1, rfl, h1, r1⟩ := trodAll_cons r0
  subst e1
  obtain ⟨v2, vs2, d2, ds2, p2, q2, hargs2, e2, rfl, h2, r2⟩ := trodAll_cons r1
  subst e2
  obtain ⟨e9, e8, e7⟩ := trodAll_nil r2
  subst e9 e8 e7
  obtain rfl : args = #[v0, v1, v2] := by cases args; simp_all
  obtain ⟨rfl, rfl⟩ := trodVars_none hV
  have hv0 := hval 0 _ v0 rfl rfl
  have hv1 := hval 1 _ v1 rfl rfl
  have hv2 := hval 2 _ v2 rfl rfl
  clear hA0
  obtain ⟨fuel0, hf0⟩ := h0
  obtain ⟨fuel1, hf1⟩ := h1
  obtain ⟨fuel2, hf2⟩ := h2
  rw [one_of_ok Tryd.underlying24 rfl hv0] at hf0
  obtain ⟨u0, xs0, hcs0, hb0, hr0⟩ := bytes_of_trod hf0
  obtain rfl : v0 = u0 := by simpa using hcs0
  rw [one_of_ok Tryd.underlying3 rfl hv1] at hf1
  obtain ⟨z1, hcs1, hlo1, hhi1⟩ := int_of_trod Tryd.underlying3 hf1
  obtain rfl : v1 = .int .i64 z1 := by simpa using hcs1
  rw [one_of_ok Tryd.underlying5 rfl hv2] at hf2
  obtain ⟨z2, hcs2, hlo2, hhi2⟩ := int_of_trod Tryd.underlying5 hf2
  obtain rfl : v2 = .int .u8 z2 := by simpa using hcs2
  refine (walk W v0 xs0 z1 z2 hr0 hb0 ⟨hlo2, hhi2⟩).mono fun e W' ⟨he, hb⟩ => ⟨_, he, ?_⟩
  exact law_post Tryd.laidOut (by kernel_rfl) (by kernel_rfl) Tryd.underlying4 rfl rfl rfl rfl hW' hb

/-- A WORLD FOR THE WITNESS: the settled one, the table (block 0) holding what its initialiser lays. -/
noncomputable def laidWorld (os : Os) : World :=
  { World.holding Tryd.prog os ⟨#[], #[], []⟩ with heap := (((World.holding Tryd.prog os ⟨#[], #[], []⟩).heap.modify 0 (layT (ns64 rowsC))).modify 1 (layT (ns32 startC))).modify 2 (layT (ns32 cubesC)) }
def wit : Array Value := #[.slice none 0 0, .int .i64 0, .int .u8 0]
theorem laid_met (os : Os) : laidMet Tryd.prog Rows.pipeNobodyRow.laid ((laidWorld os).forCall (fun _ _ => 0) ⟨#[], wit, []⟩).memory :=
  laidMet_of_run' 8 (by kernel_rfl) (by kernel_rfl)
theorem reads (os : Os) {H : Type} (enc : TypeId × Value → H) : ∃ ds places, DataW.whole enc Tryd.prog ((laidWorld os).forCall (fun _ _ => 0) ⟨#[], wit, []⟩).memory Tryd.f14.params.toList Rows.pipeNobodySpec.vars false wit.toList 8 = some (ds, [], places) :=
  ⟨[.nil, .lit (.int .i64 0), .lit (.int .u8 0)], [], by kernel_rfl⟩

set_option maxRecDepth 100000 in
theorem lifted (os : Os) (started : os.Started) (H : Type) (enc : TypeId × Value → H) (F : Stop.Interp) :
    ReturnsInHanded {} Tryd.checked os 14 .any ((OpenSpec.ofChange Rows.pipeNobodySpec).preRow enc Tryd.prog Tryd.f14 Rows.pipeNobodyRow.domain false Rows.pipeNobodyRow.laid) (((OpenSpec.ofChange Rows.pipeNobodySpec).at F).post enc Tryd.prog Tryd.f14 false true false false) := by
  obtain ⟨ds, places, hx⟩ := reads os enc
  refine returnsInHanded_of_row (C := Tryd.checked) (s := OpenSpec.ofChange Rows.pipeNobodySpec) Tryd.own started (by kernel_rfl) Tryd.func14
    (witness_row_at (enc := enc) (C := Tryd.checked) false (laidWorld os) wit rfl (by kernel_rfl) (by kernel_rfl) (by kernel_rfl)
      (OpenSpec.preRow_of_cond 8 hx (by kernel_rfl) (fun k hk => by cases hk) (by kernel_rfl) (laid_met os))) ?_
  intro W base args ds gs before hval hW _ _ _ hL _ _
  exact contract H enc W base args ds gs before hval hW hL

theorem said : Rows.PipeNobodySaid :=
  OpenClaim.holds_of_cond 14 Tryd.f14 rfl rfl rfl rfl rfl rfl rfl ⟨rfl, rfl, rfl, rfl, rfl⟩ rfl rfl rfl rfl rfl (by kernel_rfl) Tryd.func14 (by kernel_rfl)
    (of_decide_eq_true (by kernel_rfl)) (by unfold Func.isWrapper; first | (rw [if_pos (by decide +kernel)]; kernel_rfl) | (rw [if_neg (by decide +kernel)]; exact ⟨rfl, rfl⟩))
    (fun os started H enc _ F => by rw [OpenClaim.pre_eq_preRow]; exact lifted os started H enc F)

/-- No parameter wants a stand-in; the program's own looks are off. -/
theorem plain (f : FuncId) (fn : Func) (hf : Tryd.pinned.checked.prog.funcNamed "intaglio/intagliolaw23.PipeNobody" = some f) (hfn : Tryd.pinned.checked.prog.funcs[f]? = some fn) :
    false = Tryd.pinned.checked.prog.looks [] ∧ ∀ (j : Nat) t, fn.params[j]? = some t → Tryd.pinned.checked.prog.wantsStandIn t = false := by
  obtain rfl : f = 14 := Option.some.inj ((show Tryd.prog.funcNamed "intaglio/intagliolaw23.PipeNobody" = some 14 by kernel_rfl).symm.trans hf) |>.symm
  obtain rfl : fn = Tryd.f14 := (Option.some.inj (Tryd.func14.symm.trans hfn)).symm
  refine ⟨by kernel_rfl, fun j t ht => ?_⟩
  rw [Tryd.params14] at ht
  have hall : (#[24, 3, 5].toList.all fun u => !Tryd.prog.wantsStandIn u) = true := by kernel_rfl
  exact (show Tryd.prog.wantsStandIn t = false by simpa using List.all_eq_true.1 hall t (by simpa using Array.mem_of_getElem? ht))

/-- THE CARD. -/
theorem proved : Rows.PipeNobodyCardSaid :=
  Claim7.holds_tied_plain_at .later [] _ _ _ _ said (fun _ h => by cases h) (by kernel_rfl) (fun _ h => by cases h) pipeNobody_row_tie rfl ⟨rfl, rfl⟩ (by kernel_rfl) rfl plain (by kernel_rfl)
end Go.Proofs.YtdgpchacfdlleaaDoor.lawPipeNobody
