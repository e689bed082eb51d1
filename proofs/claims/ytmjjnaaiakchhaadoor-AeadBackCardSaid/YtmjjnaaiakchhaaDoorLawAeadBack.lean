/-
  The statement AeadBack: what was sealed is opened, and is sixteen bytes longer. No condition but the table as it is laid.
-/
import Derived.Test.YtmjjnaaiakchhaaDoorAb6
import Derived.Test.YtmjjnaaiakchhaaDoorTie
namespace Go.Proofs.YtmjjnaaiakchhaaDoor.lawAeadBack
open Go.ChangeShapes Go.WideShapes Go.ChangeAt Go.RowKit

set_option maxRecDepth 100000 in
set_option maxHeartbeats 2000000 in
theorem walk (w : World) (key nonce ad : List Int) (va : Value) (v : Value) (xs : List Int) (hk : key.length = 32) (hn : nonce.length = 12) (hkb : IsB key) (hnb : IsB nonce) (hab : IsB ad) (hra : Rd w va (bs ad)) (hr : Rd w v (bs xs)) (hb : IsB xs) (ht : Tab w) :
    Calls Tryd.prog 13 #[.agg (withV key nonce va).toArray, v] w fun e w' => e = .returned (.bool true) ∧ Below w.heap.size w w' := by
  have HK := Lib.hid hk
  have HN := Lib.hid hn
  have HKB := Lib.hid hkb
  have HNB := Lib.hid hnb
  have HAB := Lib.hid hab
  have HRA := Lib.hid hra
  have HX := Lib.hid hb
  have HR := Lib.hid hr
  have hma := hra.len
  have hmx := hr.len
  rw [bs_len] at hma hmx
  have hlva : ∀ w', (Builtin.len_ #[30] 3 #[va]).run Tryd.prog w' = .ok (goInt ad.length) w' := by
    have := len_fact (P := Tryd.prog) hra (t := 30) (ty := 3) (by kernel_rfl)
    rwa [bs_len] at this
  have hlv : ∀ w', (Builtin.len_ #[30] 3 #[v]).run Tryd.prog w' = .ok (goInt xs.length) w' := by
    have := len_fact (P := Tryd.prog) hr (t := 30) (ty := 3) (by kernel_rfl)
    rwa [bs_len] at this
  have HKL := Lib.hid (show (bs key).length = 32 by rw [bs_len, hk])
  have HNL := Lib.hid (show (bs nonce).length = 12 by rw [bs_len, hn])
  have HP0 := Lib.hid (fun _ : Unit => withV_p0 key nonce va)
  have HP1 := Lib.hid (fun _ : Unit => withV_p1 key nonce va hk)
  have HP2 := Lib.hid (fun _ : Unit => withV_ad key nonce va hk hn)
  have HT := Lib.hid ht
  clear hk hn hkb hnb hab hra hr hb ht
  obtain ⟨B, hB⟩ : ∃ B, w.heap.size = B := ⟨_, rfl⟩
  go_enter Tryd.func13, Tryd.ntmps13
  go_upto_region 1 with fail
  have b1 : Blk (w.alloc (.cells (withV key nonce va).toArray 52)) B (withV key nonce va) 52 := Blk.mk_ _ hB.symm rfl
  have bb : Below B w (w.alloc (.cells (withV key nonce va).toArray 52)) := bw_al (Below.refl _ _) (by omega) _
  generalize w.alloc (.cells (withV key nonce va).toArray 52) = w1 at *
  have hBw := b1.lt
  have hT1 := HT.out.keep bb (by rw [← hB]; exact HT.out.lt)
  have AW := Lib.hid (fun w' (h : Below w1.heap.size w1 w') => awake04_any w' (hT1.stay h))
  have k0 := load_fact b1 22 0 (ys := bs key) (HP0.out ()) Tryd.underlying22 rfl (n := 32) (by kernel_rfl) HKL.out
  have k1 := load_fact b1 24 32 (ys := bs nonce) (HP1.out ()) Tryd.underlying24 rfl (n := 12) (by kernel_rfl) HNL.out
  have k2 : ∀ w', Below w1.heap.size w1 w' → w'.cell? ⟨B, 44, none⟩ = some va := fun w' h => (b1.stay h).at_ 44 (HP2.out ())
  have HT1 := Lib.hid hT1
  have K2 := Lib.hid k2
  have c2 := k2 w1 (Below.refl _ _)
  have hb0 : Below w1.heap.size w1 w1 := Below.refl _ _
  have BB := Lib.hid bb
  clear k2 hT1 bb b1
  by_cases hl : 700 < xs.length
  · go_wp2_with (go_at_call 26; refine (AW.out _ hb0).mono ?_; rintro e w' ⟨rfl, hb'⟩)
    all_goals go_ret
    exact ⟨rfl, by rw [hB]; exact bw_then BB.out hb' (by omega)⟩
  by_cases hla : 700 < ad.length
  · go_wp2_with (go_at_call 26; refine (AW.out _ hb0).mono ?_; rintro e w' ⟨rfl, hb'⟩)
    all_goals go_ret
    exact ⟨rfl, by rw [hB]; exact bw_then BB.out hb' (by omega)⟩
  have RA := Lib.hid (fun w' (h : Below w1.heap.size w1 w') => HRA.out.stay (bw_then BB.out h (by omega)) (by omega))
  have RX := Lib.hid (fun w' (h : Below w1.heap.size w1 w') => HR.out.stay (bw_then BB.out h (by omega)) (by omega))
  have S1 := Lib.hid (seal_any w1 key nonce ad xs va v HK.out HN.out HKB.out HNB.out HAB.out HX.out (RA.out _ hb0) (RX.out _ hb0) HT1.out)
  have hSF : sealF key nonce ad xs = sealL key nonce ad xs := by rw [sealF, if_neg (by omega)]
  have hSE : sealE ad xs = 0 := by rw [sealE, if_neg (by omega)]
  have hSB := sealF_isB key nonce ad HX.out
  obtain ⟨hO1, hO2⟩ := open_seal key nonce ad xs (by omega) (by omega) HX.out
  rw [← hSF] at hO1 hO2
  have hSL : (sealF key nonce ad xs).length = xs.length + 16 := by rw [hSF, sealL_len _ _ _ _ (by omega)]
  unfold SealRes at S1
  rw [hSE] at S1
  clear hSF hSE
  generalize sealF key nonce ad xs = S at *
  have HS := Lib.hid (⟨hSB, hO1, hO2, hSL⟩ : IsB S ∧ openE key nonce ad S = 0 ∧ openF key nonce ad S = xs ∧ S.length = xs.length + 16)
  clear hSB hO1 hO2 hSL
  go_upto_region 4 with (first
    | (refine wp_load_f rfl 22 (.tmp 20) rfl rfl (k0 _ hb0) ?_)
    | (refine wp_load_f rfl 24 (.tmp 22) rfl rfl (k1 _ hb0) ?_)
    | (go_at_call 30; refine S1.out.mono ?_; rintro e w3 ⟨v3, rfl, hr3, hb3⟩))
  have hc3 := K2.out w3 hb3
  have hl3 : ∀ w', (Builtin.len_ #[30] 3 #[v3]).run Tryd.prog w' = .ok (goInt ((xs.length : Int) + 16)) w' := by
    have := len_fact (P := Tryd.prog) hr3 (t := 30) (ty := 3) (by kernel_rfl)
    rw [bs_len, HS.out.2.2.2] at this
    simpa using this
  have S2 := Lib.hid (open_any w3 key nonce ad S va v3 HK.out HN.out HKB.out HNB.out HAB.out HS.out.1 (RA.out _ hb3) hr3 (HT1.out.stay hb3))
  unfold OpenRes at S2
  rw [HS.out.2.1, HS.out.2.2.1] at S2
  clear hr3 c2
  go_upto_region 5 with (first
    | (refine wp_load_f rfl 22 (.tmp 31) rfl rfl (k0 _ hb3) ?_)
    | (refine wp_load_f rfl 24 (.tmp 33) rfl rfl (k1 _ hb3) ?_)
    | (go_at_call 31; refine S2.out.mono ?_; rintro e w4 ⟨v4, rfl, hr4, hb4⟩))
  have bw4 := bw_then hb3 hb4 hb3.size
  have E1 := Lib.hid (equal_any v4 v xs xs w4 hr4 (RX.out _ bw4) HX.out HX.out)
  rw [show eqB xs xs = true by simp [eqB]] at E1
  have A1 := Lib.hid (AW.out w4 bw4)
  clear hr4 hb4 hc3
  go_wp2_with (first
    | (go_at_call 16; refine E1.out.mono ?_; rintro e w5 ⟨rfl, hw5⟩; subst hw5)
    | (go_at_call 26; refine A1.out.mono ?_; rintro e w6 ⟨rfl, hb6⟩))
  all_goals go_ret
  exact ⟨rfl, by rw [hB]; exact bw_then BB.out (bw_then bw4 hb6 bw4.size) (by omega)⟩

set_option maxRecDepth 100000 in
theorem contract (H : Type) (enc : TypeId × Value → H) (W : World) (base : Nat) (args : Array Value) (ds gs : List (DataW H)) (before : List MemPlace)
    (hval : ∀ (j : Nat) t v, Tryd.f13.params[j]? = some t → args[j]? = some v → Value.okWide Tryd.prog W .any base t v)
    (hW : DataW.Whole enc Tryd.prog Tryd.f13.params.toList Rows.aeadBackSpec.vars false W args.toList ds gs before) (hL : laidMetH Tryd.prog Rows.aeadBackRow.laid W) :
    Calls Tryd.prog 13 args W fun e W' => ∃ v, e = .returned v ∧ Rows.aeadBackSpec.post enc Tryd.prog Tryd.f13 false true false false W args v W' := by
  have hW' := hW
  obtain ⟨p, q, hA0, hV, rfl, hfz, hnd⟩ := hW
  have hA : DataW.TrodAll enc Tryd.prog W 0 (fun _ => true) true Tryd.f13.params.toList args.toList ds p := hA0
  rw [Tryd.params13] at hA hval
  obtain ⟨v0, vs0, d0, ds0, p0, q0, hargs0, rfl, rfl, h0, r0⟩ := trodAll_cons hA
  obtain ⟨v1, vs1, d1, ds1, p1, q1, hargs1, e1, rfl, h1, r1⟩ := trodAll_cons r0
  subst e1
  obtain ⟨e9, e8, e7⟩ := trodAll_nil r1
  subst e9 e8 e7
  obtain rfl : args = #[v0, v1] := by cases args; simp_all
  obtain ⟨rfl, rfl⟩ := trodVars_none hV
  have hv0 := hval 0 _ v0 rfl rfl
  have hv1 := hval 1 _ v1 rfl rfl
  clear hA0
  obtain ⟨fuel0, hf0⟩ := h0
  obtain ⟨fuel1, hf1⟩ := h1
  obtain ⟨key0, nonce0, va0, ad0, hk0, hn0, hkb0, hnb0, hab0, hra0, hcs0⟩ := with_of_trod hf0
  obtain ⟨x0, rfl⟩ : ∃ cs, v0 = .agg cs := by simp only [Value.okWide] at hv0; obtain ⟨cs, h, _⟩ := hv0; exact ⟨cs, h⟩
  obtain rfl : x0 = (withV key0 nonce0 va0).toArray := by apply Array.toList_inj.1; simpa [Value.cells] using hcs0
  rw [one_of_ok Tryd.underlying30 rfl hv1] at hf1
  obtain ⟨u1, xs1, hcs1, hb1, hr1⟩ := bytes_of_trod hf1
  obtain rfl : v1 = u1 := by simpa using hcs1
  refine (walk W key0 nonce0 ad0 va0 v1 xs1 hk0 hn0 hkb0 hnb0 hab0 hra0 hr1 hb1 (tab_of_laid hL)).mono fun e W' ⟨he, hb⟩ => ⟨_, he, ?_⟩
  exact law_post Tryd.laidOut (by kernel_rfl) (by kernel_rfl) Tryd.underlying4 rfl rfl rfl rfl hW' hb

/-- A WORLD FOR THE WITNESS: the settled one, the table (block 0) holding what its initialiser lays. -/
noncomputable def laidWorld (os : Os) : World :=
  { World.holding Tryd.prog os ⟨#[], #[], []⟩ with heap := (World.holding Tryd.prog os ⟨#[], #[], []⟩).heap.modify 0 fun
      | .cells _ t frozen => .cells (ns rowsL).toArray t frozen
      | o => o }
def wit : Array Value := #[.agg (withV (List.replicate 32 0) (List.replicate 12 0) (.slice none 0 0)).toArray, .slice none 0 0]
theorem laid_met (os : Os) : laidMet Tryd.prog Rows.aeadBackRow.laid ((laidWorld os).forCall (fun _ _ => 0) ⟨#[], wit, []⟩).memory :=
  laidMet_of_run' 8 (by kernel_rfl) (by kernel_rfl)
theorem reads (os : Os) {H : Type} (enc : TypeId × Value → H) : ∃ ds places, DataW.whole enc Tryd.prog ((laidWorld os).forCall (fun _ _ => 0) ⟨#[], wit, []⟩).memory Tryd.f13.params.toList Rows.aeadBackSpec.vars false wit.toList 8 = some (ds, [], places) :=
  ⟨[.agg [.agg (List.replicate 32 (.lit (.int .u8 0))), .agg (List.replicate 12 (.lit (.int .u8 0))), .nil], .nil], [], by kernel_rfl⟩

set_option maxRecDepth 100000 in
theorem lifted (os : Os) (started : os.Started) (H : Type) (enc : TypeId × Value → H) (F : Stop.Interp) :
    ReturnsInHanded {} Tryd.checked os 13 .any ((OpenSpec.ofChange Rows.aeadBackSpec).preRow enc Tryd.prog Tryd.f13 Rows.aeadBackRow.domain false Rows.aeadBackRow.laid) (((OpenSpec.ofChange Rows.aeadBackSpec).at F).post enc Tryd.prog Tryd.f13 false true false false) := by
  obtain ⟨ds, places, hx⟩ := reads os enc
  refine returnsInHanded_of_row (C := Tryd.checked) (s := OpenSpec.ofChange Rows.aeadBackSpec) Tryd.own started (by kernel_rfl) Tryd.func13
    (witness_row_at (enc := enc) (C := Tryd.checked) false (laidWorld os) wit rfl (by kernel_rfl) (by kernel_rfl) (by kernel_rfl)
      (OpenSpec.preRow_of_cond 8 hx (by kernel_rfl) (fun k hk => by cases hk) (by kernel_rfl) (laid_met os))) ?_
  intro W base args ds gs before hval hW _ _ _ hL _ _
  exact contract H enc W base args ds gs before hval hW hL

theorem said : Rows.AeadBackSaid :=
  OpenClaim.holds_of_cond 13 Tryd.f13 rfl rfl rfl rfl rfl rfl rfl ⟨rfl, rfl, rfl, rfl, rfl⟩ rfl rfl rfl rfl rfl (by kernel_rfl) Tryd.func13 (by kernel_rfl)
    (of_decide_eq_true (by kernel_rfl)) (by unfold Func.isWrapper; first | (rw [if_pos (by decide +kernel)]; kernel_rfl) | (rw [if_neg (by decide +kernel)]; exact ⟨rfl, rfl⟩))
    (fun os started H enc _ F => by rw [OpenClaim.pre_eq_preRow]; exact lifted os started H enc F)

/-- No parameter wants a stand-in; the program's own looks are off. -/
theorem plain (f : FuncId) (fn : Func) (hf : Tryd.pinned.checked.prog.funcNamed "intaglio/intagliolaw04.AeadBack" = some f) (hfn : Tryd.pinned.checked.prog.funcs[f]? = some fn) :
    false = Tryd.pinned.checked.prog.looks [] ∧ ∀ (j : Nat) t, fn.params[j]? = some t → Tryd.pinned.checked.prog.wantsStandIn t = false := by
  obtain rfl : f = 13 := Option.some.inj ((show Tryd.prog.funcNamed "intaglio/intagliolaw04.AeadBack" = some 13 by kernel_rfl).symm.trans hf) |>.symm
  obtain rfl : fn = Tryd.f13 := (Option.some.inj (Tryd.func13.symm.trans hfn)).symm
  refine ⟨by kernel_rfl, fun j t ht => ?_⟩
  rw [Tryd.params13] at ht
  have hall : (#[52, 30].toList.all fun u => !Tryd.prog.wantsStandIn u) = true := by kernel_rfl
  exact (show Tryd.prog.wantsStandIn t = false by simpa using List.all_eq_true.1 hall t (by simpa using Array.mem_of_getElem? ht))

/-- THE CARD. -/
theorem proved : Rows.AeadBackCardSaid :=
  Claim7.holds_tied_plain_at .later [] _ _ _ _ said (fun _ h => by cases h) (by kernel_rfl) (fun _ h => by cases h) aeadBack_row_tie rfl ⟨rfl, rfl⟩ (by kernel_rfl) rfl plain (by kernel_rfl)
end Go.Proofs.YtmjjnaaiakchhaaDoor.lawAeadBack
