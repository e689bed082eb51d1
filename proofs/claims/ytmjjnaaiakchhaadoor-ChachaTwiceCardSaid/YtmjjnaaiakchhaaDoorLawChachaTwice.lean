/-
  The statement ChachaTwice: any data, xored twice by the program, is as it was. No condition but the table as it is laid.
-/
import Derived.Test.YtmjjnaaiakchhaaDoorXorM
import Derived.Test.YtmjjnaaiakchhaaDoorEls
import Derived.Test.YtmjjnaaiakchhaaDoorTie
namespace Go.Proofs.YtmjjnaaiakchhaaDoor.lawChachaTwice
open Go.ChangeShapes Go.WideShapes Go.ChangeAt Go.RowKit

set_option maxRecDepth 100000 in
set_option maxHeartbeats 2000000 in
theorem walk (w : World) (key nonce : List Int) (c : Int) (v : Value) (xs : List Int) (hk : key.length = 32) (hn : nonce.length = 12) (hkb : IsB key) (hnb : IsB nonce) (hc : 0 ≤ c ∧ c < 4294967296) (hr : Rd w v (bs xs)) (hb : IsB xs) (ht : Tab w) :
    Calls Tryd.prog 6 #[.agg (atV key c nonce).toArray, v] w fun e w' => Holds e w w' := by
  have HA := Lib.hid (show (atV key c nonce).length = 45 by rw [atV_len, hk, hn])
  have H0 := Lib.hid (fun _ : Unit => atV_c key c nonce hk)
  have p0 : ((atV key c nonce).drop 0).take (bs key).length = bs key := by simp [atV]
  have p1 : ((atV key c nonce).drop 33).take (bs nonce).length = bs nonce := by
    rw [atV, List.drop_append, List.drop_of_length_le (by simp [bs, hk])]; simp only [bs_len, hk]; simp [bs, List.take_of_length_le]
  have P0 := Lib.hid (fun _ : Unit => p0)
  have P1 := Lib.hid (fun _ : Unit => p1)
  have HK := Lib.hid hk
  have HN := Lib.hid hn
  have HKB := Lib.hid hkb
  have HNB := Lib.hid hnb
  have HD := Lib.hid hr
  have HX := Lib.hid hb
  obtain ⟨A, cap, rfl, hc1, hc2, h0, h3⟩ := hr
  rw [bs_len] at HD hc1 ⊢
  unfold maxLen at hc2
  clear hk hn hkb hnb p0 p1 hb h0 h3
  obtain ⟨B, hB⟩ : ∃ B, w.heap.size = B := ⟨_, rfl⟩
  go_enter Tryd.func6, Tryd.ntmps6
  go_upto_region 1 with fail
  have b1 : Blk (w.alloc (.cells (atV key c nonce).toArray 26)) B (atV key c nonce) 26 := Blk.mk_ _ hB.symm rfl
  have bb : Below B w (w.alloc (.cells (atV key c nonce).toArray 26)) := bw_al (Below.refl _ _) (by omega) _
  have bt : Tab (w.alloc (.cells (atV key c nonce).toArray 26)) := ht.al _
  have hd1 := HD.out.stay bb (by omega)
  generalize w.alloc (.cells (atV key c nonce).toArray 26) = w1 at *
  have hBw := b1.lt
  by_cases hl : 2000 < xs.length
  · go_wp2_with (go_at_call 18; refine (awake02_any _).mono ?_; rintro e w' ⟨rfl, rfl⟩)
    all_goals go_ret
    exact ⟨rfl, by rw [hB]; exact bb⟩
  have HT := Lib.hid bt
  have HD1 := Lib.hid hd1
  clear hd1 bt ht
  have e0 := b1.at_ 32 (H0.out ())
  go_upto_region 4 with (first
    | (refine wp_load_sub rfl 22 (.tmp 14) rfl rfl (b1.part 0 (P0.out ())) Tryd.underlying22 rfl (n := 32) (by kernel_rfl) (by rw [bs_len, HK.out]) ?_)
    | (refine wp_load_sub rfl 24 (.tmp 18) rfl rfl (b1.part 33 (P1.out ())) Tryd.underlying24 rfl (n := 12) (by kernel_rfl) (by rw [bs_len, HN.out]) ?_)
    | (go_at_call 23; refine (chxor_any _ key nonce c _ xs HK.out HN.out HKB.out HNB.out hc HD1.out HX.out HT.out (by omega)).mono ?_; rintro e w3 ⟨va, rfl, hra, hb3, _⟩))
  have b3 := b1.stay hb3
  have bb3 : Below B w w3 := bw_then bb hb3 (by omega)
  have hs3 := b3.lt
  have e3 := b3.at_ 32 (H0.out ())
  by_cases hle : (xs.length : Int) ≤ room c
  · have hdt : decide ((xs.length : Int) ≤ room c) = true := decide_eq_true hle
    simp only [hdt]
    have hys : xorAll key nonce c xs = xorL key nonce c 0 xs xs.length := by rw [xorAll, if_pos hle]
    have hzs : xorAll key nonce c (xorAll key nonce c xs) = xs := by
      rw [hys, xorAll, xorL_len, if_pos hle, xorL_back _ _ _ _ HX.out]
    have hl2 : (xorAll key nonce c xs).length = xs.length := by rw [hys, xorL_len]
    have HI := Lib.hid (xorAll_isB key nonce c HX.out)
    generalize xorAll key nonce c xs = ys at *
    have HZ := Lib.hid (fun _ : Unit => hzs)
    have HL2 := Lib.hid (fun _ : Unit => hl2)
    have HLE := Lib.hid hle
    have HRA := Lib.hid hra
    have HT3 := Lib.hid (HT.out.stay hb3)
    have HD3 := Lib.hid (HD1.out.stay hb3 (Nat.le_refl _))
    clear hys hzs hl2 hle hra e0
    go_upto_region 7 with (first
      | (refine wp_load_sub rfl 22 (.tmp 33) rfl rfl (b3.part 0 (P0.out ())) Tryd.underlying22 rfl (n := 32) (by kernel_rfl) (by rw [bs_len, HK.out]) ?_)
      | (refine wp_load_sub rfl 24 (.tmp 37) rfl rfl (b3.part 33 (P1.out ())) Tryd.underlying24 rfl (n := 12) (by kernel_rfl) (by rw [bs_len, HN.out]) ?_)
      | (go_at_call 23; refine (chxor_any _ key nonce c _ ys HK.out HN.out HKB.out HNB.out hc HRA.out HI.out HT3.out (by rw [HL2.out ()]; omega)).mono ?_; rintro e w4 ⟨vb, rfl, hrb, hb4, _⟩))
    have bb4 : Below B w w4 := bw_then bb3 hb4 (by omega)
    have hdt2 : decide ((ys.length : Int) ≤ room c) = true := decide_eq_true (by rw [HL2.out ()]; exact HLE.out)
    simp only [hdt2]
    rw [HZ.out ()] at hrb
    have E1 := Lib.hid (equal_any vb (.slice A xs.length cap) xs xs w4 hrb (HD3.out.stay hb4 (Nat.le_refl _)) HX.out HX.out)
    have e1 : eqB xs xs = true := by simp [eqB]
    rw [e1] at E1
    clear hrb
    go_wp2_with (first
      | (go_at_call 16; refine E1.out.mono ?_; rintro ee w9 ⟨rfl, hw9⟩; subst hw9)
      | (go_at_call 18; refine (awake02_any _).mono ?_; rintro e' w9 ⟨rfl, hw9⟩; subst hw9))
    all_goals go_ret
    exact ⟨rfl, by rw [hB]; exact bb4⟩
  · have hdf : decide ((xs.length : Int) ≤ room c) = false := decide_eq_false hle
    simp only [hdf]
    rw [xorAll, if_neg hle] at hra
    clear hle
    obtain ⟨Aa, ca, rfl, q1, q2, q3, q4⟩ := hra
    unfold maxLen at q2
    go_wp2_with (go_at_call 18; refine (awake02_any _).mono ?_; rintro e' w9 ⟨rfl, hw9⟩; subst hw9)
    all_goals go_ret
    exact ⟨rfl, by rw [hB]; exact bb3⟩

set_option maxRecDepth 100000 in
theorem contract (H : Type) (enc : TypeId × Value → H) (W : World) (base : Nat) (args : Array Value) (ds gs : List (DataW H)) (before : List MemPlace)
    (hval : ∀ (j : Nat) t v, Tryd.f6.params[j]? = some t → args[j]? = some v → Value.okWide Tryd.prog W .any base t v)
    (hW : DataW.Whole enc Tryd.prog Tryd.f6.params.toList Rows.chachaTwiceSpec.vars false W args.toList ds gs before) (hL : laidMetH Tryd.prog Rows.chachaTwiceRow.laid W) :
    Calls Tryd.prog 6 args W fun e W' => ∃ v, e = .returned v ∧ Rows.chachaTwiceSpec.post enc Tryd.prog Tryd.f6 false true false false W args v W' := by
  have hW' := hW
  obtain ⟨p, q, hA0, hV, rfl, hfz, hnd⟩ := hW
  have hA : DataW.TrodAll enc Tryd.prog W 0 (fun _ => true) true Tryd.f6.params.toList args.toList ds p := hA0
  rw [Tryd.params6] at hA hval
  obtain ⟨v0, vs0, d0, ds0, p0, q0, hargs0, rfl, rfl, h0, r0⟩ := trodAll_cons hA
  obtain ⟨v1, vs1, d1, ds1, p1, q1, hargs1, e1, rfl, h1, r1⟩ := trodAll_cons r0
  subst e1
  obtain ⟨e9, e8, e7⟩ := trodAll_nil r1
  subst e9 e8 e7
  obtain rfl : args = #[v0, v1] := by cases args; simp_all
  obtain ⟨rfl, rfl⟩ := trodVars_none hV
  have hv0 := hval 0 _ v0 rfl rfl
  have hv1 := hval 1 _ v1 rfl rfl
  clear hA0
  obtain ⟨fuel0, hf0⟩ := h0
  obtain ⟨fuel1, hf1⟩ := h1
  obtain ⟨key0, c0, nonce0, hk0, hn0, hkb0, hnb0, hc0, hcs0⟩ := at_of_trod hf0
  obtain ⟨x0, rfl⟩ : ∃ cs, v0 = .agg cs := by simp only [Value.okWide] at hv0; obtain ⟨cs, h, _⟩ := hv0; exact ⟨cs, h⟩
  obtain rfl : x0 = (atV key0 c0 nonce0).toArray := by apply Array.toList_inj.1; simpa [Value.cells] using hcs0
  rw [one_of_ok Tryd.underlying30 rfl hv1] at hf1
  obtain ⟨u1, xs1, hcs1, hb1, hr1⟩ := bytes_of_trod hf1
  obtain rfl : v1 = u1 := by simpa using hcs1
  refine (walk W key0 nonce0 c0 v1 xs1 hk0 hn0 hkb0 hnb0 hc0 hr1 hb1 (tab_of_laid hL)).mono fun e W' ⟨he, hb⟩ => ⟨_, he, ?_⟩
  exact law_post Tryd.laidOut (by kernel_rfl) (by kernel_rfl) Tryd.underlying4 rfl rfl rfl rfl hW' hb

/-- A WORLD FOR THE WITNESS: the settled one, the table (block 0) holding what its initialiser lays. -/
noncomputable def laidWorld (os : Os) : World :=
  { World.holding Tryd.prog os ⟨#[], #[], []⟩ with heap := (World.holding Tryd.prog os ⟨#[], #[], []⟩).heap.modify 0 fun
      | .cells _ t frozen => .cells (ns rowsL).toArray t frozen
      | o => o }
def wit : Array Value := #[.agg (atV (List.replicate 32 0) 0 (List.replicate 12 0)).toArray, .slice none 0 0]
theorem laid_met (os : Os) : laidMet Tryd.prog Rows.chachaTwiceRow.laid ((laidWorld os).forCall (fun _ _ => 0) ⟨#[], wit, []⟩).memory :=
  laidMet_of_run' 8 (by kernel_rfl) (by kernel_rfl)
theorem reads (os : Os) {H : Type} (enc : TypeId × Value → H) : ∃ ds places, DataW.whole enc Tryd.prog ((laidWorld os).forCall (fun _ _ => 0) ⟨#[], wit, []⟩).memory Tryd.f6.params.toList Rows.chachaTwiceSpec.vars false wit.toList 8 = some (ds, [], places) :=
  ⟨[.agg [.agg (List.replicate 32 (.lit (.int .u8 0))), .lit (.int .u32 0), .agg (List.replicate 12 (.lit (.int .u8 0)))], .nil], [], by kernel_rfl⟩

set_option maxRecDepth 100000 in
theorem lifted (os : Os) (started : os.Started) (H : Type) (enc : TypeId × Value → H) (F : Stop.Interp) :
    ReturnsInHanded {} Tryd.checked os 6 .any ((OpenSpec.ofChange Rows.chachaTwiceSpec).preRow enc Tryd.prog Tryd.f6 Rows.chachaTwiceRow.domain false Rows.chachaTwiceRow.laid) (((OpenSpec.ofChange Rows.chachaTwiceSpec).at F).post enc Tryd.prog Tryd.f6 false true false false) := by
  obtain ⟨ds, places, hx⟩ := reads os enc
  refine returnsInHanded_of_row (C := Tryd.checked) (s := OpenSpec.ofChange Rows.chachaTwiceSpec) Tryd.own started (by kernel_rfl) Tryd.func6
    (witness_row_at (enc := enc) (C := Tryd.checked) false (laidWorld os) wit rfl (by kernel_rfl) (by kernel_rfl) (by kernel_rfl)
      (OpenSpec.preRow_of_cond 8 hx (by kernel_rfl) (fun k hk => by cases hk) (by kernel_rfl) (laid_met os))) ?_
  intro W base args ds gs before hval hW _ _ _ hL _ _
  exact contract H enc W base args ds gs before hval hW hL

theorem said : Rows.ChachaTwiceSaid :=
  OpenClaim.holds_of_cond 6 Tryd.f6 rfl rfl rfl rfl rfl rfl rfl ⟨rfl, rfl, rfl, rfl, rfl⟩ rfl rfl rfl rfl rfl (by kernel_rfl) Tryd.func6 (by kernel_rfl)
    (of_decide_eq_true (by kernel_rfl)) (by unfold Func.isWrapper; first | (rw [if_pos (by decide +kernel)]; kernel_rfl) | (rw [if_neg (by decide +kernel)]; exact ⟨rfl, rfl⟩))
    (fun os started H enc _ F => by rw [OpenClaim.pre_eq_preRow]; exact lifted os started H enc F)

/-- No parameter wants a stand-in; the program's own looks are off. -/
theorem plain (f : FuncId) (fn : Func) (hf : Tryd.pinned.checked.prog.funcNamed "intaglio/intagliolaw02.ChachaTwice" = some f) (hfn : Tryd.pinned.checked.prog.funcs[f]? = some fn) :
    false = Tryd.pinned.checked.prog.looks [] ∧ ∀ (j : Nat) t, fn.params[j]? = some t → Tryd.pinned.checked.prog.wantsStandIn t = false := by
  obtain rfl : f = 6 := Option.some.inj ((show Tryd.prog.funcNamed "intaglio/intagliolaw02.ChachaTwice" = some 6 by kernel_rfl).symm.trans hf) |>.symm
  obtain rfl : fn = Tryd.f6 := (Option.some.inj (Tryd.func6.symm.trans hfn)).symm
  refine ⟨by kernel_rfl, fun j t ht => ?_⟩
  rw [Tryd.params6] at ht
  have hall : (#[26, 30].toList.all fun u => !Tryd.prog.wantsStandIn u) = true := by kernel_rfl
  exact (show Tryd.prog.wantsStandIn t = false by simpa using List.all_eq_true.1 hall t (by simpa using Array.mem_of_getElem? ht))

/-- THE CARD. -/
theorem proved : Rows.ChachaTwiceCardSaid :=
  Claim7.holds_tied_plain_at .later [] _ _ _ _ said (fun _ h => by cases h) (by kernel_rfl) (fun _ h => by cases h) chachaTwice_row_tie rfl ⟨rfl, rfl⟩ (by kernel_rfl) rfl plain (by kernel_rfl)
end Go.Proofs.YtmjjnaaiakchhaaDoor.lawChachaTwice
