/-
  The statement AeadMarks: the mark of any bytes is the document's. No condition but the table as it is laid.
-/
import Derived.Test.YtmjjnaaiakchhaaDoorAb6
import Derived.Test.YtmjjnaaiakchhaaDoorTie
namespace Go.Proofs.YtmjjnaaiakchhaaDoor.lawAeadMarks
open Go.ChangeShapes Go.WideShapes Go.ChangeAt Go.RowKit

set_option maxRecDepth 100000 in
set_option maxHeartbeats 2000000 in
theorem walk (w : World) (key nonce ad : List Int) (va : Value) (v : Value) (xs : List Int) (hk : key.length = 32) (hn : nonce.length = 12) (hkb : IsB key) (hnb : IsB nonce) (hab : IsB ad) (hra : Rd w va (bs ad)) (hr : Rd w v (bs xs)) (hb : IsB xs) (ht : Tab w) :
    Calls Tryd.prog 9 #[.agg (withV key nonce va).toArray, v] w fun e w' => e = .returned (.bool true) ∧ Below w.heap.size w w' := by
  have HK := Lib.hid hk
  have HN := Lib.hid hn
  have HKB := Lib.hid hkb
  have HNB := Lib.hid hnb
  have HAB := Lib.hid hab
  have HRA := Lib.hid hra
  have HX := Lib.hid hb
  have HR := Lib.hid hr
  have hma := hra.len
  have hmx := hr.len
  rw [bs_len] at hma hmx
  have hlva : ∀ w', (Builtin.len_ #[30] 3 #[va]).run Tryd.prog w' = .ok (goInt ad.length) w' := by
    have := len_fact (P := Tryd.prog) hra (t := 30) (ty := 3) (by kernel_rfl)
    rwa [bs_len] at this
  have hlv : ∀ w', (Builtin.len_ #[30] 3 #[v]).run Tryd.prog w' = .ok (goInt xs.length) w' := by
    have := len_fact (P := Tryd.prog) hr (t := 30) (ty := 3) (by kernel_rfl)
    rwa [bs_len] at this
  have HKL := Lib.hid (show (bs key).length = 32 by rw [bs_len, hk])
  have HNL := Lib.hid (show (bs nonce).length = 12 by rw [bs_len, hn])
  have HP0 := Lib.hid (fun _ : Unit => withV_p0 key nonce va)
  have HP1 := Lib.hid (fun _ : Unit => withV_p1 key nonce va hk)
  have HP2 := Lib.hid (fun _ : Unit => withV_ad key nonce va hk hn)
  have HT := Lib.hid ht
  clear hk hn hkb hnb hab hra hr hb ht
  obtain ⟨B, hB⟩ : ∃ B, w.heap.size = B := ⟨_, rfl⟩
  go_enter Tryd.func9, Tryd.ntmps9
  go_upto_region 1 with fail
  have b1 : Blk (w.alloc (.cells (withV key nonce va).toArray 52)) B (withV key nonce va) 52 := Blk.mk_ _ hB.symm rfl
  have bb : Below B w (w.alloc (.cells (withV key nonce va).toArray 52)) := bw_al (Below.refl _ _) (by omega) _
  generalize w.alloc (.cells (withV key nonce va).toArray 52) = w1 at *
  have hBw := b1.lt
  have hT1 := HT.out.keep bb (by rw [← hB]; exact HT.out.lt)
  have AW := Lib.hid (fun w' (h : Below w1.heap.size w1 w') => awake04_any w' (hT1.stay h))
  have k0 := load_fact b1 22 0 (ys := bs key) (HP0.out ()) Tryd.underlying22 rfl (n := 32) (by kernel_rfl) HKL.out
  have k1 := load_fact b1 24 32 (ys := bs nonce) (HP1.out ()) Tryd.underlying24 rfl (n := 12) (by kernel_rfl) HNL.out
  have k2 : ∀ w', Below w1.heap.size w1 w' → w'.cell? ⟨B, 44, none⟩ = some va := fun w' h => (b1.stay h).at_ 44 (HP2.out ())
  have HT1 := Lib.hid hT1
  have K2 := Lib.hid k2
  have c2 := k2 w1 (Below.refl _ _)
  have hb0 : Below w1.heap.size w1 w1 := Below.refl _ _
  have BB := Lib.hid bb
  clear k2 hT1 bb b1
  by_cases hl : 700 < xs.length
  · go_wp2_with (go_at_call 26; refine (AW.out _ hb0).mono ?_; rintro e w' ⟨rfl, hb'⟩)
    all_goals go_ret
    exact ⟨rfl, by rw [hB]; exact bw_then BB.out hb' (by omega)⟩
  by_cases hla : 700 < ad.length
  · go_wp2_with (go_at_call 26; refine (AW.out _ hb0).mono ?_; rintro e w' ⟨rfl, hb'⟩)
    all_goals go_ret
    exact ⟨rfl, by rw [hB]; exact bw_then BB.out hb' (by omega)⟩
  have RA := Lib.hid (fun w' (h : Below w1.heap.size w1 w') => HRA.out.stay (bw_then BB.out h (by omega)) (by omega))
  have RX := Lib.hid (fun w' (h : Below w1.heap.size w1 w') => HR.out.stay (bw_then BB.out h (by omega)) (by omega))
  have MK := Lib.hid (fun w' (h : Below w1.heap.size w1 w') => mark_any w' key nonce ad xs va v HK.out HN.out HKB.out HNB.out HAB.out HX.out (RA.out _ h) (RX.out _ h) (HT1.out.stay h) (by omega) (by omega))
  have RM := Lib.hid (fun w' (h : Below w1.heap.size w1 w') => rmark_any w' key nonce ad xs va v HK.out HN.out HKB.out HNB.out HAB.out HX.out (RA.out _ h) (RX.out _ h) (by omega) (by omega))
  have ke : ∀ w, (Op.equalIn 10000 53 (.agg (bs (markL key nonce ad xs)).toArray) (.agg (bs (markL key nonce ad xs)).toArray)).run Tryd.prog w = .ok true w := fun w => by
    obtain ⟨i, hi, _, hz, _⟩ := info_parts info5
    have := run_eq_ints (P := Tryd.prog) (w := w) 9998 53 5 16 .u8 _ _ (markL_len key nonce ad xs) (markL_len key nonce ad xs) Tryd.underlying53 Tryd.underlying5 i hi hz
    rwa [show (markL key nonce ad xs == markL key nonce ad xs) = true by simp] at this
  generalize markL key nonce ad xs = M at *
  go_upto_region 3 with fail
  have hbl0 : Below w1.heap.size w1 w1.drew := bw_d1 (Below.refl _ _)
  have k2 := K2.out
  clear c2 hb0
  refine region_plan ⟨[0, 1, 0, 4, 0, 16, 0, 127, 0, 256, 0, 1024, 0, 4096, 0, 32767, 65535, 131071, 262143, 524287, 1048575], [7, 15, 18], [0, 0, 0, 0, 0, 0, 0, 0, 0, 0, 0, 0, 0, 0, 0, 1, 2, 2, 2, 3, 3]⟩
    [⟨[0, 1, 2, 3, 4, 5, 6, 8, 9, 10, 11, 12, 13, 14], [0, 1, 2, 3, 4, 5, 8, 9, 10, 11, 12, 13], some 7⟩, ⟨[], [8, 9, 10, 11, 12, 13], some 15⟩, ⟨[16, 17], [16], some 18⟩, ⟨[19, 20], [], none⟩] 35 (by kernel_rfl) (by kernel_rfl) (by kernel_rfl) (by kernel_rfl) rfl ?_
  simp only [SeqGo, opsAt_cons, opsAt_nil, List.getElem?_cons, Option.toList_some, List.singleton_append, ↓reduceIte, Nat.reduceEqDiff, Nat.reduceSub]
  have c0 := k2 _ hbl0
  go_wp2_with (first
    | (refine wp_load_f rfl 22 (.tmp 15) rfl rfl (k0 _ hbl0) ?_)
    | (refine wp_load_f rfl 24 (.tmp 17) rfl rfl (k1 _ hbl0) ?_)
    | (refine wp_load_f rfl 22 (.tmp 23) rfl rfl (k0 _ hbl0) ?_)
    | (refine wp_load_f rfl 24 (.tmp 25) rfl rfl (k1 _ hbl0) ?_))
  refine ⟨⟨by (simp only [Same]; go_simp), same_load rfl 22 (.tmp 15) rfl rfl (k0 _ hbl0) rfl, by (simp only [Same]; go_simp), same_load rfl 24 (.tmp 17) rfl rfl (k1 _ hbl0) rfl, by (simp only [Same]; go_simp), by (simp only [Same]; go_simp), by (simp only [Same]; go_simp), same_load rfl 22 (.tmp 23) rfl rfl (k0 _ hbl0) rfl, by (simp only [Same]; go_simp), same_load rfl 24 (.tmp 25) rfl rfl (k1 _ hbl0) rfl, by (simp only [Same]; go_simp), by (simp only [Same]; go_simp), trivial⟩, ?_⟩
  go_wp2_with (go_at_call 27; refine (MK.out _ hbl0).mono ?_; rintro e w3 ⟨rfl, hb3⟩)
  have hbl3 := bw_then hbl0 hb3 hbl0.size
  have c3 := k2 _ hbl3
  refine ⟨⟨by (simp only [Same]; go_simp), same_load rfl 22 (.tmp 23) rfl rfl (k0 _ hbl3) rfl, by (simp only [Same]; go_simp), same_load rfl 24 (.tmp 25) rfl rfl (k1 _ hbl3) rfl, by (simp only [Same]; go_simp), by (simp only [Same]; go_simp), trivial⟩, ?_⟩
  go_wp2_with (go_at_call 28; refine (RM.out _ hbl3).mono ?_; rintro e w4 ⟨rfl, hb4⟩)
  have hbl4 := bw_then hbl3 hb4 hbl3.size
  refine ⟨by (simp only [Sames, Same]; go_simp), ?_⟩
  go_wp2_with (go_at_call 26; refine (AW.out _ hbl4).mono ?_; rintro e w5 ⟨rfl, hb5⟩)
  refine ⟨by (simp only [Sames]; try go_simp), ?_⟩
  go_wp2_with fail
  all_goals go_ret
  exact ⟨rfl, by rw [hB]; exact bw_then BB.out (bw_then hbl4 hb5 hbl4.size) (by omega)⟩

set_option maxRecDepth 100000 in
theorem contract (H : Type) (enc : TypeId × Value → H) (W : World) (base : Nat) (args : Array Value) (ds gs : List (DataW H)) (before : List MemPlace)
    (hval : ∀ (j : Nat) t v, Tryd.f9.params[j]? = some t → args[j]? = some v → Value.okWide Tryd.prog W .any base t v)
    (hW : DataW.Whole enc Tryd.prog Tryd.f9.params.toList Rows.aeadMarksSpec.vars false W args.toList ds gs before) (hL : laidMetH Tryd.prog Rows.aeadMarksRow.laid W) :
    Calls Tryd.prog 9 args W fun e W' => ∃ v, e = .returned v ∧ Rows.aeadMarksSpec.post enc Tryd.prog Tryd.f9 false true false false W args v W' := by
  have hW' := hW
  obtain ⟨p, q, hA0, hV, rfl, hfz, hnd⟩ := hW
  have hA : DataW.TrodAll enc Tryd.prog W 0 (fun _ => true) true Tryd.f9.params.toList args.toList ds p := hA0
  rw [Tryd.params9] at hA hval
  obtain ⟨v0, vs0, d0, ds0, p0, q0, hargs0, rfl, rfl, h0, r0⟩ := trodAll_cons hA
  obtain ⟨v1, vs1, d1, ds1, p1, q1, hargs1, e1, rfl, h1, r1⟩ := trodAll_cons r0
  subst e1
  obtain ⟨e9, e8, e7⟩ := trodAll_nil r1
  subst e9 e8 e7
  obtain rfl : args = #[v0, v1] := by cases args; simp_all
  obtain ⟨rfl, rfl⟩ := trodVars_none hV
  have hv0 := hval 0 _ v0 rfl rfl
  have hv1 := hval 1 _ v1 rfl rfl
  clear hA0
  obtain ⟨fuel0, hf0⟩ := h0
  obtain ⟨fuel1, hf1⟩ := h1
  obtain ⟨key0, nonce0, va0, ad0, hk0, hn0, hkb0, hnb0, hab0, hra0, hcs0⟩ := with_of_trod hf0
  obtain ⟨x0, rfl⟩ : ∃ cs, v0 = .agg cs := by simp only [Value.okWide] at hv0; obtain ⟨cs, h, _⟩ := hv0; exact ⟨cs, h⟩
  obtain rfl : x0 = (withV key0 nonce0 va0).toArray := by apply Array.toList_inj.1; simpa [Value.cells] using hcs0
  rw [one_of_ok Tryd.underlying30 rfl hv1] at hf1
  obtain ⟨u1, xs1, hcs1, hb1, hr1⟩ := bytes_of_trod hf1
  obtain rfl : v1 = u1 := by simpa using hcs1
  refine (walk W key0 nonce0 ad0 va0 v1 xs1 hk0 hn0 hkb0 hnb0 hab0 hra0 hr1 hb1 (tab_of_laid hL)).mono fun e W' ⟨he, hb⟩ => ⟨_, he, ?_⟩
  exact law_post Tryd.laidOut (by kernel_rfl) (by kernel_rfl) Tryd.underlying4 rfl rfl rfl rfl hW' hb

/-- A WORLD FOR THE WITNESS: the settled one, the table (block 0) holding what its initialiser lays. -/
noncomputable def laidWorld (os : Os) : World :=
  { World.holding Tryd.prog os ⟨#[], #[], []⟩ with heap := (World.holding Tryd.prog os ⟨#[], #[], []⟩).heap.modify 0 fun
      | .cells _ t frozen => .cells (ns rowsL).toArray t frozen
      | o => o }
def wit : Array Value := #[.agg (withV (List.replicate 32 0) (List.replicate 12 0) (.slice none 0 0)).toArray, .slice none 0 0]
theorem laid_met (os : Os) : laidMet Tryd.prog Rows.aeadMarksRow.laid ((laidWorld os).forCall (fun _ _ => 0) ⟨#[], wit, []⟩).memory :=
  laidMet_of_run' 8 (by kernel_rfl) (by kernel_rfl)
theorem reads (os : Os) {H : Type} (enc : TypeId × Value → H) : ∃ ds places, DataW.whole enc Tryd.prog ((laidWorld os).forCall (fun _ _ => 0) ⟨#[], wit, []⟩).memory Tryd.f9.params.toList Rows.aeadMarksSpec.vars false wit.toList 8 = some (ds, [], places) :=
  ⟨[.agg [.agg (List.replicate 32 (.lit (.int .u8 0))), .agg (List.replicate 12 (.lit (.int .u8 0))), .nil], .nil], [], by kernel_rfl⟩

set_option maxRecDepth 100000 in
theorem lifted (os : Os) (started : os.Started) (H : Type) (enc : TypeId × Value → H) (F : Stop.Interp) :
    ReturnsInHanded {} Tryd.checked os 9 .any ((OpenSpec.ofChange Rows.aeadMarksSpec).preRow enc Tryd.prog Tryd.f9 Rows.aeadMarksRow.domain false Rows.aeadMarksRow.laid) (((OpenSpec.ofChange Rows.aeadMarksSpec).at F).post enc Tryd.prog Tryd.f9 false true false false) := by
  obtain ⟨ds, places, hx⟩ := reads os enc
  refine returnsInHanded_of_row (C := Tryd.checked) (s := OpenSpec.ofChange Rows.aeadMarksSpec) Tryd.own started (by kernel_rfl) Tryd.func9
    (witness_row_at (enc := enc) (C := Tryd.checked) false (laidWorld os) wit rfl (by kernel_rfl) (by kernel_rfl) (by kernel_rfl)
      (OpenSpec.preRow_of_cond 8 hx (by kernel_rfl) (fun k hk => by cases hk) (by kernel_rfl) (laid_met os))) ?_
  intro W base args ds gs before hval hW _ _ _ hL _ _
  exact contract H enc W base args ds gs before hval hW hL

theorem said : Rows.AeadMarksSaid :=
  OpenClaim.holds_of_cond 9 Tryd.f9 rfl rfl rfl rfl rfl rfl rfl ⟨rfl, rfl, rfl, rfl, rfl⟩ rfl rfl rfl rfl rfl (by kernel_rfl) Tryd.func9 (by kernel_rfl)
    (of_decide_eq_true (by kernel_rfl)) (by unfold Func.isWrapper; first | (rw [if_pos (by decide +kernel)]; kernel_rfl) | (rw [if_neg (by decide +kernel)]; exact ⟨rfl, rfl⟩))
    (fun os started H enc _ F => by rw [OpenClaim.pre_eq_preRow]; exact lifted os started H enc F)

/-- No parameter wants a stand-in; the program's own looks are off. -/
theorem plain (f : FuncId) (fn : Func) (hf : Tryd.pinned.checked.prog.funcNamed "intaglio/intagliolaw04.AeadMarks" = some f) (hfn : Tryd.pinned.checked.prog.funcs[f]? = some fn) :
    false = Tryd.pinned.checked.prog.looks [] ∧ ∀ (j : Nat) t, fn.params[j]? = some t → Tryd.pinned.checked.prog.wantsStandIn t = false := by
  obtain rfl : f = 9 := Option.some.inj ((show Tryd.prog.funcNamed "intaglio/intagliolaw04.AeadMarks" = some 9 by kernel_rfl).symm.trans hf) |>.symm
  obtain rfl : fn = Tryd.f9 := (Option.some.inj (Tryd.func9.symm.trans hfn)).symm
  refine ⟨by kernel_rfl, fun j t ht => ?_⟩
  rw [Tryd.params9] at ht
  have hall : (#[52, 30].toList.all fun u => !Tryd.prog.wantsStandIn u) = true := by kernel_rfl
  exact (show Tryd.prog.wantsStandIn t = false by simpa using List.all_eq_true.1 hall t (by simpa using Array.mem_of_getElem? ht))

/-- THE CARD. -/
theorem proved : Rows.AeadMarksCardSaid :=
  Claim7.holds_tied_plain_at .later [] _ _ _ _ said (fun _ h => by cases h) (by kernel_rfl) (fun _ h => by cases h) aeadMarks_row_tie rfl ⟨rfl, rfl⟩ (by kernel_rfl) rfl plain (by kernel_rfl)
end Go.Proofs.YtmjjnaaiakchhaaDoor.lawAeadMarks
