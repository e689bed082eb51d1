/-
  The statement DiskKept: behind any crash a file's synced bytes are there, and of the others the first ones. No condition.
-/
import Derived.Test.YtlgcnnhlbkidmaaAwakeD
import Derived.Test.YtlgcnnhlbkidmaaKinds
import Derived.Test.YtlgcnnhlbkidmaaSlice
namespace Go.Proofs.Ytlgcnnhlbkidmaa.lawDiskKept
open Go.ChangeShapes Go.WideShapes Go.ChangeAt Go.RowKit

def sF : ByteArray := ⟨#[102]⟩
abbrev one (d : List Int) (k : Nat) : Files := [([102], ⟨d, k⟩)]
theorem app1 (d : List Int) (k : Nat) (b : List Int) (h : d.length + b.length ≤ 1048576) : appendS Pow.fresh (one d k) sF b = (0, Pow.fresh, one (d ++ b) k) := by
  unfold appendS
  rw [if_neg (show ¬ thereS Pow.fresh (one d k) sF ≠ 0 from fun h => h rfl), show fileAt (one d k) sF = ⟨d, k⟩ from rfl, if_neg (by simp only; omega), if_neg (show ¬ Pow.fresh.act.2 ≠ 0 from fun h => h rfl)]
  rfl
theorem app2 (d : List Int) (k : Nat) (b : List Int) (h : d.length + b.length ≤ 1048576) : appendS ⟨true, true, 0, true⟩ (one d k) sF b = (8, ⟨false, true, 0, true⟩, one d k) := by
  unfold appendS
  rw [if_neg (show ¬ thereS ⟨true, true, 0, true⟩ (one d k) sF ≠ 0 from fun h => h rfl), show fileAt (one d k) sF = ⟨d, k⟩ from rfl, if_neg (by simp only; omega), if_pos (show (Pow.act ⟨true, true, 0, true⟩).2 ≠ 0 by decide)]
  rfl
theorem DP.fused {w w' : World} {B : Nat} {own : Nat → Prop} {g gp : Nat} {p p' : Pow} {fs : Files} (h : DP w B own g gp p fs) (hb : Blk w' gp p'.cells 92) (ho : Only gp w w') (h1 : p'.ok) (h2 : p'.made = true) : DP w' B own g gp p' fs :=
  ⟨h.disk.turns (Turns.of_only ho (S := fun k => k = gp) rfl) (fun k hk e => h.no (e ▸ hk)), hb, h1, h2, h.no, by rw [ho.size]; exact h.lt, h.lo⟩

theorem Rd.upto {w : World} {A : Option Addr} {n c : Nat} {xs : List Value} (h : Rd w (.slice A n c) xs) (i : Nat) (hi : i ≤ xs.length) : Rd w (.slice A i c) (xs.take i) := by
  obtain ⟨A', c', hv, h1, h2, h0, h3⟩ := h
  cases hv
  have hl : (xs.take i).length = i := by rw [List.length_take]; omega
  refine ⟨A, c, by rw [hl], by rw [hl]; omega, h2, h0, ?_⟩
  rcases h3 with rfl | ⟨b, o, h4, h5⟩
  · left; simp
  · refine .inr ⟨b, o, h4, fun j hj => ?_⟩
    rw [h5 j (by omega), List.getElem_take]
set_option maxRecDepth 100000 in
theorem run_upto (w : World) (A : Option Addr) (n c k : Nat) (hk : k ≤ c) (h0 : A = none → c = 0) : (Instr.slice 22 (.slice A n c) none (some (.int .i64 k)) none).run Try.prog w = .ok (.slice A k c) w := by
  rw [run_slice_h (w := w) 22 A n c (by kernel_rfl) .i64 k (by omega) (by omega)]
  have hsz : (sizeOf (Try.prog.elem 22)).run Try.prog w = .ok 1 w := by kernel_rfl
  simp only [Result.andThen, hsz, sliced]
  congr 1
  split
  · simp
  · cases A with
    | none => have := h0 rfl; omega
    | some a => simp [Addr.add]
set_option maxRecDepth 100000 in
set_option maxHeartbeats 4000000 in
theorem walk (w : World) (u v : Value) (F M : List Int) (z : Int) (hrF : Rd w u (bs F)) (hrM : Rd w v (bs M)) (hF : IsB F) (hM : IsB M) (_hz : -9223372036854775808 ≤ z ∧ z ≤ 9223372036854775807) :
    Calls Try.prog 12 #[u, v, .int .i64 z] w fun e w' => e = .returned (.bool true) ∧ Below w.heap.size w w' := by
  have hmF := hrF.len
  have hmM := hrM.len
  rw [bs_len] at hmF hmM
  obtain ⟨AF, cF, rfl, _⟩ := id hrF
  obtain ⟨AM, cM, rfl, _⟩ := id hrM
  simp only [bs_len] at hrF hrM ⊢
  have HRF := Lib.hid hrF; have HRM := Lib.hid hrM; have HF := Lib.hid hF; have HM := Lib.hid hM
  clear hrF hrM hF hM
  obtain ⟨a, ha⟩ : ∃ a, F.length = a := ⟨_, rfl⟩
  obtain ⟨m, hm⟩ : ∃ a, M.length = a := ⟨_, rfl⟩
  have HLA := Lib.hid (fun _ : Unit => ha); have HLM := Lib.hid (fun _ : Unit => hm)
  rw [ha] at hmF HRF ⊢
  rw [hm] at hmM HRM ⊢
  clear ha hm
  have kc := fun (w : World) (C : Array Value) (n c : Nat) => Lib.run_convert_bytes_const (P := Try.prog) w 22 5 C n c Try.underlying22 Try.underlying5
  go_enter Try.func12, Try.ntmps12
  by_cases hl1 : (2000 : Int) < a
  · go_wp2_with (go_at_call 50; refine (awake09_any w).mono ?_; rintro e w' ⟨rfl, hb'⟩)
    all_goals go_ret
    exact ⟨rfl, hb'⟩
  by_cases hl2 : (2000 : Int) < m
  · go_wp2_with (go_at_call 50; refine (awake09_any w).mono ?_; rintro e w' ⟨rfl, hb'⟩)
    all_goals go_ret
    exact ⟨rfl, hb'⟩
  go_upto_region 5 with (first
    | (go_at_call 42; refine (plug_any w).mono ?_; rintro e w1 ⟨rfl, hp1, hb1, hs1⟩)
    | (go_at_call 54; refine (newdisk_any w1 (some w.heap.size)).mono ?_; rintro e w2 ⟨g, own, rfl, hd2, hb2⟩))
  have h2 := DP.made_ hp1 hb1 hs1 hd2 hb2
  have l2 : Below w.heap.size w w2 := bw_then hb1 hb2 hb1.size
  obtain ⟨gp, hgp⟩ : ∃ gp, w.heap.size = gp := ⟨_, rfl⟩
  rw [hgp] at h2 ⊢
  have C1 := create_dp h2 sF (by decide)
  rw [show createS Pow.fresh [] sF = (0, Pow.fresh, one [] 0) from by rfl] at C1
  have C1 := Lib.hid C1; have H2 := Lib.hid h2; have HGP := Lib.hid (fun _ : Unit => hgp); have L2 := Lib.hid l2
  have hoF : F ≠ [] → ∀ k, hold (.slice AF a cF) k → k < gp := fun hx k hk => by
    have := HRF.out.hold_lt (fun e => hx (by simpa [bs] using e)) hk
    omega
  have hoM : M ≠ [] → ∀ k, hold (.slice AM m cM) k → k < gp := fun hx k hk => by
    have := HRM.out.hold_lt (fun e => hx (by simpa [bs] using e)) hk
    omega
  have HOF := Lib.hid hoF; have HOM := Lib.hid hoM
  clear hp1 hb1 hs1 hd2 hb2 h2 hgp l2 hoF hoM
  go_upto_region 6 with (go_at_call 55; refine C1.out.mono ?_; rintro e w3 ⟨rfl, own3, hd3, ho3, ht3⟩)
  have l3 : Below gp w w3 := H2.out.below ht3 (by rw [← HGP.out ()]; exact L2.out)
  have C2 := append_dp hd3 sF (by decide) _ F (HRF.out.stay l3 (by rw [HGP.out ()]; exact Nat.le_refl _)) HF.out (fun hx k hk => hd3.old (HOF.out hx k hk))
  rw [app1 [] 0 F (by rw [HLA.out ()]; simp; omega)] at C2
  have C2 := Lib.hid C2; have H3 := Lib.hid hd3; have L3 := Lib.hid l3
  clear hd3 ho3 ht3 l3
  go_upto_region 7 with (go_at_call 56; refine C2.out.mono ?_; rintro e w4 ⟨rfl, own4, hd4, ho4, ht4⟩)
  have l4 : Below gp w w4 := H3.out.below ht4 L3.out
  have C3 := sync_dp hd4 sF (by decide)
  rw [show syncS Pow.fresh (one ([] ++ F) 0) sF = (0, Pow.fresh, one F F.length) from by rfl] at C3
  have C3 := Lib.hid C3; have H4 := Lib.hid hd4; have L4 := Lib.hid l4
  clear hd4 ho4 ht4 l4
  go_upto_region 8 with (go_at_call 57; refine C3.out.mono ?_; rintro e w5 ⟨rfl, own5, hd5, ho5, ht5⟩)
  have l5 : Below gp w w5 := H4.out.below ht5 L4.out
  have C4 := append_dp hd5 sF (by decide) _ M (HRM.out.stay l5 (by rw [HGP.out ()]; exact Nat.le_refl _)) HM.out (fun hx k hk => hd5.old (HOM.out hx k hk))
  rw [app1 F F.length M (by rw [HLA.out (), HLM.out ()]; omega)] at C4
  have C4 := Lib.hid C4; have H5 := Lib.hid hd5; have L5 := Lib.hid l5
  clear hd5 ho5 ht5 l5
  go_upto_region 9 with (go_at_call 56; refine C4.out.mono ?_; rintro e w6 ⟨rfl, own6, hd6, ho6, ht6⟩)
  have l6 : Below gp w w6 := H5.out.below ht6 L5.out
  have FU := Lib.hid (fuse_any Pow.fresh 0 gp w6 hd6.pow rfl)
  have H6 := Lib.hid hd6; have L6 := Lib.hid l6
  clear hd6 ho6 ht6 l6
  go_upto_region 10 with (go_at_call 45; refine FU.out.mono ?_; rintro e w7 ⟨rfl, f1, f2⟩)
  have h7 : DP w7 gp own6 g gp ⟨true, true, 0, true⟩ (one (F ++ M) F.length) := DP.fused H6.out f1 f2 ⟨Int.le_refl _, by decide⟩ rfl
  have l7 : Below gp w w7 := Only.below L6.out f2 (Nat.le_refl _)
  have C5 := append_dp (h7.stay (bw_al (Below.refl _ _) (Nat.le_refl _) (.cells (bs [108, 111, 115, 116]).toArray 5 (4, 5)))) sF (by decide) _ [108, 111, 115, 116] (rd_frz w7 [108, 111, 115, 116] (4, 5) (by decide)) (by intro z hz; simp at hz; omega) (fun _ k hk => h7.new (hold_new hk))
  rw [app2 (F ++ M) F.length _ (by rw [List.length_append, HLA.out (), HLM.out ()]; simp; omega)] at C5
  have C5 := Lib.hid C5; have H7 := Lib.hid h7; have L7 := Lib.hid l7
  clear f1 f2 h7 l7
  go_upto_region 11 with (go_at_call 56; refine C5.out.mono ?_; rintro e w8 ⟨rfl, own8, hd8, ho8, ht8⟩)
  have l8 : Below gp w w8 := (H7.out.stay (bw_al (Below.refl _ _) (Nat.le_refl _) _)).below ht8 (bw_al L7.out H7.out.lt _)
  obtain ⟨N, hN⟩ : ∃ N, cutN (some z) ⟨F ++ M, F.length⟩ = N := ⟨_, rfl⟩
  have hNm : N ≤ m := by
    have := cutN_le (some z) ⟨F ++ M, F.length⟩ (by simp)
    rw [hN] at this
    simp only [List.length_append, HLM.out ()] at this
    omega
  have C6 := crash_dp (hd8.stay (bw_al (Below.refl _ _) (Nat.le_refl _) (.cells #[.int .i64 z] 3))) (.slice (some ⟨w8.heap.size, 0, none⟩) 1 1) [z] (Rd.one w8 (.int .i64 z) 3) (fun _ k hk => (hd8.new (hold_new hk)).1)
  rw [show crashS [z] (one (F ++ M) F.length) = one ((F ++ M).take (F.length + N)) (F.length + N) from by rw [← hN]; rfl] at C6
  obtain ⟨X, hX⟩ : ∃ X, (F ++ M).take (F.length + N) = X := ⟨_, rfl⟩
  obtain ⟨K, hK⟩ : ∃ K, F.length + N = K := ⟨_, rfl⟩
  rw [hX, hK] at C6
  have hXl : X.length = K := by rw [← hX, List.length_take, List.length_append, HLM.out (), hK]; omega
  have C6 := Lib.hid C6; have H8 := Lib.hid (hd8.stay (bw_al (Below.refl _ _) (Nat.le_refl _) (.cells #[.int .i64 z] 3))); have L8 := Lib.hid (bw_al l8 hd8.lt (.cells #[.int .i64 z] 3)); have HN := Lib.hid (fun _ : Unit => hN); have HX := Lib.hid (fun _ : Unit => hX); have HK := Lib.hid (fun _ : Unit => hK); have HXL := Lib.hid (fun _ : Unit => hXl)
  clear hd8 ho8 ht8 l8 hN hX hK hXl
  go_upto_region 12 with (go_at_call 58; refine C6.out.mono ?_; rintro e w9 ⟨rfl, hd9, ht9⟩)
  have l9 : Below gp w w9 := H8.out.below ht9 L8.out
  have R1 := read_dp hd9 sF (by decide)
  rw [show thereS Pow.fresh (one X K) sF = 0 from by rfl, show readF Pow.fresh (one X K) sF = X from by rfl] at R1
  have R1 := Lib.hid R1; have H9 := Lib.hid hd9; have L9 := Lib.hid l9
  clear hd9 ht9 l9
  go_upto_region 13 with (go_at_call 59; refine R1.out.mono ?_; rintro e w10 ⟨vb, rfl, hob, hib, hb10⟩)
  have LW := Lib.hid hb10.size
  have h10 := H9.out.stay hb10
  have l10 := bw_then L9.out hb10 H9.out.lt
  have H10 := Lib.hid h10; have L10 := Lib.hid l10; have HOB := Lib.hid hob; have HIB := Lib.hid hib
  clear h10 l10 hob hib hb10
  have hown0 := World.ownsRow_made (e := 5) (size := 1) w10 #[] 0 (Nat.le_refl _) (Nat.zero_le _) (by simp)
  have HO0 := Lib.hid hown0
  have rF : Rd (w10.alloc (.cells #[] 5)) (.slice AF a cF) (bs F) := HRF.out.stay (bw_al L10.out H10.out.lt _) (by rw [HGP.out ()]; exact Nat.le_refl _)
  have HRF2 := Lib.hid rF
  have hz10 := H10.out.lt
  have hbsF : (bs F).length = a := by rw [bs_len]; exact HLA.out ()
  have hbsM : (bs M).length = m := by rw [bs_len]; exact HLM.out ()
  have HBF := Lib.hid (fun _ : Unit => hbsF); have HBM := Lib.hid (fun _ : Unit => hbsM)
  clear hown0 rF hbsF hbsM
  go_upto_region 14 with (first
    | (have _t := ho11; clear _t; at_builtin; refine wp_app _ _ 22 rfl rfl 5 (.int .u8 0) 1 Try.underlying22 info5 rfl w10.heap.size rfl ho11 rfl (HRM.out.stay lb11 (by rw [HGP.out ()]; exact Nat.le_refl _)) (bs_one _) (by decide) (by rw [HBF.out (), HBM.out ()]; omega) (by have := hb11.size; simp at this; omega) ?_; intro v12 w12 ho12 _ hb12)
    | (at_builtin; refine wp_app _ _ 22 rfl rfl 5 (.int .u8 0) 1 Try.underlying22 info5 rfl w10.heap.size rfl HO0.out rfl HRF2.out (bs_one _) (by decide) (by rw [HBF.out ()]; omega) (by simp) ?_; intro v11 w11 ho11 _ hb11; have lb11 : Below gp w w11 := (bw_al L10.out H10.out.lt _).trans (hb11.mono hz10)))
  have hb02 : Below w10.heap.size w10 w12 := ((bw_al (Below.refl _ _) (Nat.le_refl _) _).trans hb11).trans hb12
  have rall : Rd w12 v12 (bs (F ++ M)) := by
    have := Rd.of_own ho12
    rwa [List.nil_append, ← bs_append] at this
  have h12 := H10.out.stay hb02
  have l12 := L10.out.trans (hb02.mono H10.out.lt)
  have rb : Rd w12 vb (bs X) := (Rd.of_own HOB.out).stay hb02 (Nat.le_refl _)
  have C7 := Lib.hid (crash_dp h12 (.slice none 0 0) [] (Rd.nil _) (fun hx => absurd rfl hx))
  rw [show crashS [] (one X K) = one X K from by
    show [(([102] : Bt), (⟨X.take (K + 0), K + 0⟩ : FileS))] = _
    rw [Nat.add_zero, List.take_of_length_le (by rw [HXL.out ()]; exact Nat.le_refl _)]] at C7
  obtain ⟨A12, c12, rfl, hc12, hm12, h012, _⟩ := id rall
  have hall : (bs (F ++ M)).length = a + m := by rw [bs_len, List.length_append, HLA.out (), HLM.out ()]
  rw [hall] at rall hc12 ho12 ⊢
  have hKm : K ≤ a + m := by have := HK.out (); rw [HLA.out ()] at this; omega
  have s1 : ∀ w', (Instr.slice 22 (.slice A12 (a + m) c12) none (some (.int .i64 K)) none).run Try.prog w' = .ok (.slice A12 K c12) w' := fun w' => run_upto w' A12 (a + m) c12 K (by omega) h012
  have s2 : ∀ w', (Instr.sliceAt 22 (.slice A12 (a + m) c12) none (some (.int .i64 K)) none).run Try.prog w' = .ok (.slice A12 K c12) w' := fun w' => (run_sliceAt_slice (w := w') _ _ _ _ _ (by kernel_rfl)).trans (s1 w')
  have rs : Rd w12 (.slice A12 K c12) (bs X) := by
    have h1 := Rd.upto rall K (by rw [hall]; exact hKm)
    have e : bs X = (bs (F ++ M)).take K := by rw [← HX.out (), HK.out ()]; simp [bs, List.map_take]
    rw [e]; exact h1
  have hs12 : ∀ k, hold (.slice A12 K c12) k → w10.heap.size ≤ k := fun k hk => by
    obtain ⟨o, n', c', hk⟩ := hk
    cases hk
    exact (owns_lt ho12 ⟨_, _, _, rfl⟩).1
  have hsb : ∀ k, hold vb k → w9.heap.size ≤ k := fun k hk => (owns_lt HOB.out hk).1
  have hwz : 0 ≤ IntKind.u64.wrap z := by rw [IntKind.wrap_u64]; omega
  have hw1 : IntKind.u64.wrap ((m : Int) + 1) = (m : Int) + 1 := by rw [IntKind.wrap_u64]; omega
  have hw2 : (IntKind.u64.wrap z).tmod ((m : Int) + 1) = (N : Int) := by
    have h1 := HN.out ()
    unfold cutN at h1
    simp only [List.length_append, HLA.out (), HLM.out ()] at h1
    rw [show ((a + m : Nat) : Int) - (a : Int) + 1 = (m : Int) + 1 by omega] at h1
    rw [Int.tmod_eq_emod_of_nonneg hwz, ← h1]
    have := Int.emod_nonneg (IntKind.u64.wrap z) (show ((m : Int) + 1) ≠ 0 by omega)
    omega
  have hw3 : IntKind.i64.wrap (N : Int) = N := by rw [IntKind.wrap_i64]; omega
  have hKa : (a : Int) + (N : Int) = (K : Int) := by have := HK.out (); rw [HLA.out ()] at this; omega
  have H12 := Lib.hid h12; have L12 := Lib.hid l12; have RB := Lib.hid rb; have RS := Lib.hid rs
  have HS12 := Lib.hid hs12; have HSB := Lib.hid hsb
  clear hb02 rall h12 l12 rb rs ho11 ho12 hb11 hb12 lb11 hs12 hsb hall
  go_upto_region 16 with (go_at_call 58; refine C7.out.mono ?_; rintro e w13 ⟨rfl, hd13, ht13⟩)
  have l13 : Below gp w w13 := H12.out.below ht13 L12.out
  have ht13' : ∀ k, w9.heap.size ≤ k → ¬ Dom own8 gp k := fun k hk hd => by
    have := H9.out.new hk
    exact hd.elim this.1 this.2
  have rs13 := RS.out.moved ht13 (fun _ k hk => ht13' k (Nat.le_trans LW.out (HS12.out k hk)))
  have rb13 := RB.out.moved ht13 (fun _ k hk => ht13' k (HSB.out k hk))
  have R2 := read_dp hd13 sF (by decide)
  rw [show thereS Pow.fresh (one X K) sF = 0 from by rfl, show readF Pow.fresh (one X K) sF = X from by rfl] at R2
  have R2 := Lib.hid R2; have H13 := Lib.hid hd13; have L13 := Lib.hid l13; have RS13 := Lib.hid rs13; have RB13 := Lib.hid rb13
  clear hd13 ht13 l13 rs13 rb13 ht13'
  go_upto_region 17 with (go_at_call 59; refine R2.out.mono ?_; rintro e w14 ⟨vc, rfl, hoc, hic, hb14⟩)
  have rs14 := RS13.out.stay hb14 (Nat.le_refl _)
  have rb14 := RB13.out.stay hb14 (Nat.le_refl _)
  have rc14 := Rd.of_own hoc
  have l14 := bw_then L13.out hb14 H13.out.lt
  have E1 := equal_any _ _ X X w14 rb14 rs14 HIB.out HIB.out
  have E2 := equal_any _ _ X X w14 rc14 rb14 HIB.out HIB.out
  rw [show eqB X X = true by simp [eqB]] at E1 E2
  have E1 := Lib.hid E1; have E2 := Lib.hid E2; have L14 := Lib.hid l14; have HLT := Lib.hid (Nat.le_trans H13.out.lt hb14.size)
  clear rs14 rb14 rc14 l14 hoc hic hb14
  have tok : True := trivial
  go_wp2_with (first
    | (have _t := tok; clear _t; go_at_call 19; refine E1.out.mono ?_; rintro e w15 ⟨rfl, hw15⟩; subst hw15; clear tok)
    | (go_at_call 19; refine E2.out.mono ?_; rintro e w15 ⟨rfl, hw15⟩; subst hw15)
    | (go_at_call 50; refine (awake09_any _).mono ?_; rintro e w' ⟨rfl, hb'⟩))
  all_goals go_ret
  refine ⟨rfl, ?_⟩
  rw [HGP.out ()]
  exact bw_then L14.out hb' HLT.out

set_option maxRecDepth 100000 in
theorem contract (H : Type) (enc : TypeId × Value → H) (W : World) (base : Nat) (args : Array Value) (ds gs : List (DataW H)) (before : List MemPlace)
    (hval : ∀ (j : Nat) t v, Try.f12.params[j]? = some t → args[j]? = some v → Value.okWide Try.prog W .any base t v)
    (hW : DataW.Whole enc Try.prog Try.f12.params.toList Rows.diskKeptSpec.vars false W args.toList ds gs before) :
    Calls Try.prog 12 args W fun e W' => ∃ v, e = .returned v ∧ Rows.diskKeptSpec.post enc Try.prog Try.f12 false true false false W args v W' := by
  have hW' := hW
  obtain ⟨p, q, hA0, hV, rfl, hfz, hnd⟩ := hW
  have hA : DataW.TrodAll enc Try.prog W 0 (fun _ => true) true Try.f12.params.toList args.toList ds p := hA0
  rw [Try.params12] at hA hval
  obtain ⟨v0, vs0, d0, ds0, p0, q0, hargs0, rfl, rfl, h0, r0⟩ := trodAll_cons hA
  obtain ⟨v1, vs1, d1, ds1, p1, q1, hargs1, e1, rfl, h1, r1⟩ := trodAll_cons r0
  subst e1
  obtain ⟨v2, vs2, d2, ds2, p2, q2, hargs2, e2, rfl, h2, r2⟩ := trodAll_cons r1
  subst e2
  obtain ⟨e9, e8, e7⟩ := trodAll_nil r2
  subst e9 e8 e7
  obtain rfl : args = #[v0, v1, v2] := by cases args; simp_all
  obtain ⟨rfl, rfl⟩ := trodVars_none hV
  have hv0 := hval 0 _ v0 rfl rfl
  have hv1 := hval 1 _ v1 rfl rfl
  have hv2 := hval 2 _ v2 rfl rfl
  clear hA0
  obtain ⟨fuel0, hf0⟩ := h0
  obtain ⟨fuel1, hf1⟩ := h1
  obtain ⟨fuel2, hf2⟩ := h2
  rw [one_of_ok Try.underlying22 rfl hv0] at hf0
  obtain ⟨u0, xs0, hcs0, hb0, hr0⟩ := bytes_of_trod hf0
  obtain rfl : v0 = u0 := by simpa using hcs0
  rw [one_of_ok Try.underlying22 rfl hv1] at hf1
  obtain ⟨u1, xs1, hcs1, hb1, hr1⟩ := bytes_of_trod hf1
  obtain rfl : v1 = u1 := by simpa using hcs1
  rw [one_of_ok Try.underlying3 rfl hv2] at hf2
  obtain ⟨z2, hcs2, hlo2, hhi2⟩ := int_of_trod Try.underlying3 hf2
  obtain rfl : v2 = .int .i64 z2 := by simpa using hcs2
  refine (walk W v0 v1 xs0 xs1 z2 hr0 hr1 hb0 hb1 ⟨hlo2, hhi2⟩).mono fun e W' ⟨he, hb⟩ => ⟨_, he, ?_⟩
  exact law_post Try.laidOut (by kernel_rfl) (by kernel_rfl) Try.underlying4 rfl rfl rfl rfl hW' hb

set_option maxRecDepth 100000 in
theorem lifted (os : Os) (started : os.Started) (H : Type) (enc : TypeId × Value → H) (F : Stop.Interp) :
    ReturnsInHanded {} Try.checked os 12 .any ((OpenSpec.ofChange Rows.diskKeptSpec).preRow enc Try.prog Try.f12 Rows.diskKeptRow.domain false Rows.diskKeptRow.laid) (((OpenSpec.ofChange Rows.diskKeptSpec).at F).post enc Try.prog Try.f12 false true false false) := by
  obtain ⟨places, hx⟩ : ∃ places, DataW.whole enc Try.prog ((World.holding Try.prog os ⟨#[], #[], []⟩).forCall (fun _ _ => 0) ⟨#[], #[.slice none 0 0, .slice none 0 0, .int .i64 0], []⟩).memory Try.f12.params.toList Rows.diskKeptSpec.vars false #[.slice none 0 0, .slice none 0 0, .int .i64 0].toList 8 = some ([.nil, .nil, .lit (.int .i64 0)], [], places) := ⟨[], by kernel_rfl⟩
  refine returnsInHanded_of_row (C := Try.checked) (s := OpenSpec.ofChange Rows.diskKeptSpec) Try.own started (by kernel_rfl) Try.func12
    (witness_row_at (enc := enc) (C := Try.checked) false (World.holding Try.prog os ⟨#[], #[], []⟩) #[.slice none 0 0, .slice none 0 0, .int .i64 0] rfl (by kernel_rfl) (by kernel_rfl) (by kernel_rfl)
      (OpenSpec.preRow_of_cond 8 hx (by kernel_rfl) (fun k hk => by cases hk) (by kernel_rfl) (laid_none _ _))) ?_
  intro W base args ds gs before hval hW _ _ _ _ _ _
  exact contract H enc W base args ds gs before hval hW

theorem proved : Rows.DiskKeptSaid :=
  OpenClaim.holds_of_cond 12 Try.f12 rfl rfl rfl rfl rfl rfl rfl ⟨rfl, rfl, rfl, rfl, rfl⟩ rfl rfl rfl rfl rfl (by kernel_rfl) Try.func12 (by kernel_rfl)
    (of_decide_eq_true (by kernel_rfl)) (by unfold Func.isWrapper; first | (rw [if_pos (by decide +kernel)]; kernel_rfl) | (rw [if_neg (by decide +kernel)]; exact ⟨rfl, rfl⟩))
    (fun os started H enc _ F => by rw [OpenClaim.pre_eq_preRow]; exact lifted os started H enc F)
end Go.Proofs.Ytlgcnnhlbkidmaa.lawDiskKept
