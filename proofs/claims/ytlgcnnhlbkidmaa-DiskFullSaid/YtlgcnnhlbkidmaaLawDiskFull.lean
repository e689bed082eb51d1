/-
  The statement DiskFull: a disk takes as many files as may be, and no more. No condition.
-/
import Derived.Test.YtlgcnnhlbkidmaaAwakeD
import Derived.Test.YtlgcnnhlbkidmaaDiskE
import Derived.Test.YtlgcnnhlbkidmaaKinds
import Derived.Deep.CutBlock
namespace Go.Proofs.Ytlgcnnhlbkidmaa.lawDiskFull
open Go.ChangeShapes Go.WideShapes Go.ChangeAt Go.RowKit

def nm (i : Nat) : ByteArray := strOf [97 + ((i / 10 : Nat) : Int), 48 + ((i % 10 : Nat) : Int)]
def nmL (i : Nat) : Bt := [UInt8.ofNat (97 + i / 10), UInt8.ofNat (48 + i % 10)]
theorem nm_list (i : Nat) : (nm i).data.toList = nmL i := by
  unfold nm nmL
  rw [← ByteArray.toList_eq, strOf_toList]
  simp only [List.map_cons, List.map_nil]
  congr 2
theorem nm_rise : ∀ i, i < 64 → ∀ j, j < i → bytesBefore (nmL j) (nmL i) = true := by decide +kernel
theorem nm_named (i : Nat) : namedB (nm i) = true := by
  have h : (nm i).size = 2 := by
    have := congrArg List.length (nm_list i)
    simpa [nmL] using this
  unfold namedB
  rw [h]; rfl
def fl (i : Nat) : Files := (List.range i).map fun j => (nmL j, ⟨[], 0⟩)
theorem fl_len (i : Nat) : (fl i).length = i := by simp [fl]
theorem ins_end {α : Type} (f : Bt × α) : ∀ l : List (Bt × α), (∀ g ∈ l, bytesBefore g.1 f.1 = true) → insF f l = l ++ [f]
  | [], _ => rfl
  | g :: r, h => by
    have h1 := h g List.mem_cons_self
    have h2 : ¬ bytesBefore f.1 g.1 = true := fun h3 => by
      have := WideShapes.bytes_trans _ _ _ h1 h3
      rw [WideAt.bytes_irrefl] at this
      cases this
    unfold insF
    rw [if_neg h2, ins_end f r (fun x hx => h x (List.mem_cons_of_mem _ hx))]
    rfl
theorem fl_none (i : Nat) (hi : i < 64) : lookF (fl i) (nmL i) = none := by
  rw [lookF_none]
  intro f hf e
  obtain ⟨j, hj, rfl⟩ := List.mem_map.1 hf
  have := nm_rise i hi j (List.mem_range.1 hj)
  simp only at e
  rw [e, WideAt.bytes_irrefl] at this
  cases this
theorem fl_next (i : Nat) (hi : i < 64) : putF (fl i) (nmL i) ⟨[], 0⟩ = fl (i + 1) := by
  unfold putF
  rw [delF_none (fl_none i hi), ins_end]
  · unfold fl
    rw [List.range_succ, List.map_append]
    rfl
  · intro g hg
    obtain ⟨j, hj, rfl⟩ := List.mem_map.1 hg
    exact nm_rise i hi j (List.mem_range.1 hj)
theorem look_far (i : Nat) (hi : i < 70) (h64 : 64 ≤ i) : lookF (fl 64) (nmL i) = none := by
  rw [lookF_none]
  intro f hf e
  obtain ⟨j, hj, rfl⟩ := List.mem_map.1 hf
  have h : ∀ i, i < 70 → 64 ≤ i → ∀ j, j < 64 → nmL j ≠ nmL i := by decide +kernel
  exact h i hi h64 j (List.mem_range.1 hj) e
theorem create_next (i : Nat) (hi : i < 64) : createS Pow.fresh (fl i) (nm i) = (0, Pow.fresh, fl (i + 1)) := by
  unfold createS
  have h1 : askE Pow.fresh [nm i] = 0 := by unfold askE; simp [nm_named]; rfl
  rw [h1, if_neg (by decide), nm_list]
  have h2 : fullB (fl i) (nmL i) = false := by
    unfold fullB
    rw [fl_len]
    have : decide (64 ≤ i) = false := by simp; omega
    rw [this]; simp
  rw [h2, if_neg (by decide), if_neg (show ¬ Pow.fresh.act.2 ≠ 0 from fun h => h rfl), fl_next i hi]
  rfl
theorem create_full (i : Nat) (hi : i < 70) (h64 : 64 ≤ i) : createS Pow.fresh (fl 64) (nm i) = (10, Pow.fresh, fl 64) := by
  unfold createS
  have h1 : askE Pow.fresh [nm i] = 0 := by unfold askE; simp [nm_named]; rfl
  rw [h1, if_neg (by decide), nm_list]
  have h2 : fullB (fl 64) (nmL i) = true := by
    unfold fullB
    rw [fl_len, look_far i hi h64]; rfl
  rw [h2, if_pos rfl]
theorem edit_next (i : Nat) (hi : i < 64) : editS (fl i) (nm i) [] = (0, fl (i + 1)) := by
  unfold editS
  rw [if_neg (by simp [nm_named]), nm_list]
  have h2 : fullB (fl i) (nmL i) = false := by
    unfold fullB
    rw [fl_len]
    have : decide (64 ≤ i) = false := by simp; omega
    rw [this]; simp
  rw [h2, if_neg (by decide)]
  show (0, putF (fl i) (nmL i) ⟨[], 0⟩) = _
  rw [fl_next i hi]
theorem edit_full (i : Nat) (hi : i < 70) (h64 : 64 ≤ i) : editS (fl 64) (nm i) [] = (10, fl 64) := by
  unfold editS
  rw [if_neg (by simp [nm_named]), nm_list]
  have h2 : fullB (fl 64) (nmL i) = true := by
    unfold fullB
    rw [fl_len, look_far i hi h64]; rfl
  rw [h2, if_pos rfl]
theorem fl_rise (i : Nat) (hi : i ≤ 64) : Rise (fl i) := by
  unfold Rise fl
  rw [List.pairwise_map]
  have h : (List.range i).Pairwise (fun a b => a < b) := List.pairwise_lt_range
  refine (List.Pairwise.imp_of_mem ?_ h)
  intro a b ha hb hab
  exact nm_rise b (by have := List.mem_range.1 hb; omega) a hab
theorem create_again (i : Nat) (hi : i ≤ 64) (h0 : 0 < i) : createS Pow.fresh (fl i) ⟨#[97, 48]⟩ = (0, Pow.fresh, fl i) := by
  have hx : (fl i)[0]? = some (([97, 48] : Bt), (⟨[], 0⟩ : FileS)) := by
    unfold fl
    rw [List.getElem?_map, List.getElem?_range h0]
    rfl
  unfold createS
  rw [show askE Pow.fresh [⟨#[97, 48]⟩] = 0 from rfl, if_neg (by decide)]
  have h2 : fullB (fl i) ([97, 48] : Bt) = false := by
    unfold fullB
    rw [look_at (fl_rise i hi) hx]; rfl
  rw [show (⟨#[97, 48]⟩ : ByteArray).data.toList = ([97, 48] : Bt) from rfl, h2, if_neg (by decide), if_neg (show ¬ Pow.fresh.act.2 ≠ 0 from fun h => h rfl), putF_set (fl_rise i hi) hx]
  have : (fl i).set 0 (([97, 48] : Bt), (⟨[], 0⟩ : FileS)) = fl i := by
    obtain ⟨h1, h2⟩ := List.getElem?_eq_some_iff.1 hx
    rw [← h2]
    exact List.set_getElem_self h1
  rw [this]
  rfl

set_option maxRecDepth 100000 in
set_option maxHeartbeats 4000000 in
theorem walk (w : World) (z : Int) (hz0 : 0 ≤ z) (hz1 : z ≤ 255) :
    Calls Try.prog 13 #[.int .u8 z] w fun e w' => e = .returned (.bool true) ∧ Below w.heap.size w w' := by
  obtain ⟨m, rfl⟩ := Int.eq_ofNat_of_zero_le hz0
  obtain ⟨N, hN⟩ : ∃ N, m % 70 = N := ⟨_, rfl⟩
  have hNi : (m : Int) % 70 = (N : Int) := by omega
  have hNt : (m : Int).tmod 70 = (N : Int) := by rw [Int.tmod_eq_emod_of_nonneg hz0]; exact hNi
  have hN70 : N < 70 := by omega
  go_enter Try.func13, Try.ntmps13
  go_upto_region 2 with (first
    | (go_at_call 42; refine (plug_any w).mono ?_; rintro e w1 ⟨rfl, hp1, hb1, hs1⟩)
    | (go_at_call 54; refine (newdisk_any w1 (some w.heap.size)).mono ?_; rintro e w2 ⟨g, own, rfl, hd2, hb2⟩))
  have h2 := DP.made_ hp1 hb1 hs1 hd2 hb2
  have l2 : Below w.heap.size w w2 := bw_then hb1 hb2 hb1.size
  obtain ⟨gp, hgp⟩ : ∃ gp, w.heap.size = gp := ⟨_, rfl⟩
  rw [hgp] at h2 l2 ⊢
  have HGP := Lib.hid (fun _ : Unit => hgp); have H2 := Lib.hid h2; have L2 := Lib.hid l2
  clear hp1 hb1 hs1 hd2 hb2 h2 hgp l2 hN
  go_wp2_with fail
  go_loopw [4] (fun x wr => ∃ (i : Nat) (own : Nat → Prop), i ≤ N ∧ x = .int .i64 i ∧ DP wr gp own g gp Pow.fresh (fl (min i 64)) ∧ Below gp w wr) (fun x _ => N - (intOf x).toNat)
  case atStart => exact ⟨0, own, Nat.zero_le _, rfl, H2.out, L2.out⟩
  case round =>
    obtain ⟨i, own2, hi, rfl, hd, hl⟩ := hrel
    obtain ⟨wo, rfl⟩ : ∃ wo : World, wo = wr := ⟨_, rfl⟩
    have HD := Lib.hid hd; have HL := Lib.hid hl
    clear hd hl
    by_cases hlt : i < N
    · by_cases h64 : i < 64
      · have hfs : min i 64 = i := by omega
        rw [hfs] at HD
        clear hfs
        have hcv : (convert 22 9 (.slice (some ⟨wo.heap.size, 0, none⟩) 2 2)).run Try.prog (wo.alloc (.cells #[.int .u8 (97 + (i : Int) / 10), .int .u8 (48 + (i : Int) % 10)] 5)) = .ok (.string (nm i)) (wo.alloc (.cells #[.int .u8 (97 + (i : Int) / 10), .int .u8 (48 + (i : Int) % 10)] 5)) := by
          have h1 := conv_rd (rd_frz wo [97 + (i : Int) / 10, 48 + (i : Int) % 10] (0, 0) (by simp))
          have e : strOf [97 + (i : Int) / 10, 48 + (i : Int) % 10] = nm i := by unfold nm; congr 2
          rw [e] at h1
          exact h1
        have hlA : Below wo.heap.size wo (wo.alloc (.cells #[.int .u8 (97 + (i : Int) / 10), .int .u8 (48 + (i : Int) % 10)] 5)) := bw_al (Below.refl _ _) (Nat.le_refl _) _
        have hnm : (nm i).size ≤ maxLen := by
          have := congrArg List.length (nm_list i)
          have h2 : (nm i).size = 2 := by simpa [nmL] using this
          unfold maxLen; omega
        have CR := create_dp (HD.out.stay hlA) (nm i) hnm
        have ED := edit_dp (HD.out.stay hlA) (nm i) hnm (.slice none 0 0) [] (Rd.nil _) (fun z hz => by simp at hz)
        rw [create_next i h64] at CR
        rw [edit_next i h64] at ED
        have CR := Lib.hid CR; have ED := Lib.hid ED; have HLA := Lib.hid hlA
        clear hlA hnm
        go_upto_region 9 with fail
        rcases (show (i : Int) % 2 = 0 ∨ (i : Int) % 2 = 1 by omega) with hp | hp
        all_goals (
          go_wp2_with (first
            | (go_at_call 55; refine CR.out.mono ?_; rintro e w3 ⟨rfl, own3, hd3, ho3, ht3⟩)
            | (go_at_call 60; refine ED.out.mono ?_; rintro e w3 ⟨rfl, own3, hd3, ho3, ht3⟩))
          have hl3 := (HD.out.stay HLA.out).below ht3 (HL.out.trans (HLA.out.mono HD.out.lt))
          exact ⟨⟨i + 1, own3, by omega, by simp, by rw [show min (i + 1) 64 = i + 1 by omega]; exact hd3, hl3⟩, by simp [intOf]; omega⟩)
      · have hfs : min i 64 = 64 := by omega
        rw [hfs] at HD
        clear hfs
        have hcv : (convert 22 9 (.slice (some ⟨wo.heap.size, 0, none⟩) 2 2)).run Try.prog (wo.alloc (.cells #[.int .u8 (97 + (i : Int) / 10), .int .u8 (48 + (i : Int) % 10)] 5)) = .ok (.string (nm i)) (wo.alloc (.cells #[.int .u8 (97 + (i : Int) / 10), .int .u8 (48 + (i : Int) % 10)] 5)) := by
          have h1 := conv_rd (rd_frz wo [97 + (i : Int) / 10, 48 + (i : Int) % 10] (0, 0) (by simp))
          have e : strOf [97 + (i : Int) / 10, 48 + (i : Int) % 10] = nm i := by unfold nm; congr 2
          rw [e] at h1
          exact h1
        have hlA : Below wo.heap.size wo (wo.alloc (.cells #[.int .u8 (97 + (i : Int) / 10), .int .u8 (48 + (i : Int) % 10)] 5)) := bw_al (Below.refl _ _) (Nat.le_refl _) _
        have hnm : (nm i).size ≤ maxLen := by
          have := congrArg List.length (nm_list i)
          have h2 : (nm i).size = 2 := by simpa [nmL] using this
          unfold maxLen; omega
        have CR := create_dp (HD.out.stay hlA) (nm i) hnm
        have ED := edit_dp (HD.out.stay hlA) (nm i) hnm (.slice none 0 0) [] (Rd.nil _) (fun z hz => by simp at hz)
        rw [create_full i (by omega) (by omega)] at CR
        rw [edit_full i (by omega) (by omega)] at ED
        have CR := Lib.hid CR; have ED := Lib.hid ED; have HLA := Lib.hid hlA
        clear hlA hnm
        go_upto_region 9 with fail
        rcases (show (i : Int) % 2 = 0 ∨ (i : Int) % 2 = 1 by omega) with hp | hp
        all_goals (
          go_wp2_with (first
            | (go_at_call 55; refine CR.out.mono ?_; rintro e w3 ⟨rfl, own3, hd3, ho3, ht3⟩)
            | (go_at_call 60; refine ED.out.mono ?_; rintro e w3 ⟨rfl, own3, hd3, ho3, ht3⟩))
          have hl3 := (HD.out.stay HLA.out).below ht3 (HL.out.trans (HLA.out.mono HD.out.lt))
          exact ⟨⟨i + 1, own3, by omega, by simp, by rw [show min (i + 1) 64 = 64 by omega]; exact hd3, hl3⟩, by simp [intOf]; omega⟩)
    · obtain rfl : i = N := by omega
      obtain ⟨c, hc⟩ : ∃ c, min i 64 = c := ⟨_, rfl⟩
      rw [hc] at HD
      have hcc : (i < 64 ∧ c = i) ∨ (64 ≤ i ∧ c = 64) := by omega
      clear hc
      have hmm : min (i : Int) 64 = (c : Int) ∧ max (c : Int) 0 = (c : Int) := by omega
      have hm1 := hmm.1
      have hm2 := hmm.2
      by_cases h0 : i = 0
      · have h0' : ((i : Int) == 0) = true := by simp; omega
        clear h0
        have NM := names_any wo gp own2 g (some gp) _ HD.out.disk
        rw [fl_len] at NM
        have NM := Lib.hid NM
        go_wp2_with (first
          | (go_at_call 61; refine NM.out.mono ?_; rintro e w4 ⟨vn, rfl, hon, hbn⟩; obtain ⟨An, cn, rfl, _⟩ := id (Rd.of_own hon); rw [List.length_map, fl_len])
          | (go_at_call 50; refine (awake09_any _).mono ?_; rintro e w' ⟨rfl, hb'⟩))
        all_goals go_ret
        refine ⟨rfl, ?_⟩
        rw [HGP.out ()]
        exact bw_then (bw_then HL.out hbn HD.out.lt) hb' (Nat.le_trans HD.out.lt hbn.size)
      · have CA := create_dp HD.out ⟨#[97, 48]⟩ (by decide)
        rw [create_again c (by omega) (by omega)] at CA
        have CA := Lib.hid CA
        have h0' : ((i : Int) == 0) = false := by simp; omega
        go_wp2_with (first
          | (go_at_call 55; refine CA.out.mono ?_; rintro e w3 ⟨rfl, own3, hd3, ho3, ht3⟩; have hl3 := HD.out.below ht3 HL.out; have NM := names_any w3 gp own3 g (some gp) _ hd3.disk; rw [fl_len] at NM; have NM := Lib.hid NM)
          | (go_at_call 61; refine NM.out.mono ?_; rintro e w4 ⟨vn, rfl, hon, hbn⟩; obtain ⟨An, cn, rfl, _⟩ := id (Rd.of_own hon); rw [List.length_map, fl_len])
          | (go_at_call 50; refine (awake09_any _).mono ?_; rintro e w' ⟨rfl, hb'⟩))
        all_goals go_ret
        refine ⟨rfl, ?_⟩
        rw [HGP.out ()]
        exact bw_then (bw_then hl3 hbn hd3.lt) hb' (Nat.le_trans hd3.lt hbn.size)

set_option maxRecDepth 100000 in
theorem contract (H : Type) (enc : TypeId × Value → H) (W : World) (base : Nat) (args : Array Value) (ds gs : List (DataW H)) (before : List MemPlace)
    (hval : ∀ (j : Nat) t v, Try.f13.params[j]? = some t → args[j]? = some v → Value.okWide Try.prog W .any base t v)
    (hW : DataW.Whole enc Try.prog Try.f13.params.toList Rows.diskFullSpec.vars false W args.toList ds gs before) :
    Calls Try.prog 13 args W fun e W' => ∃ v, e = .returned v ∧ Rows.diskFullSpec.post enc Try.prog Try.f13 false true false false W args v W' := by
  have hW' := hW
  obtain ⟨p, q, hA0, hV, rfl, hfz, hnd⟩ := hW
  have hA : DataW.TrodAll enc Try.prog W 0 (fun _ => true) true Try.f13.params.toList args.toList ds p := hA0
  rw [Try.params13] at hA hval
  obtain ⟨v0, vs0, d0, ds0, p0, q0, hargs0, rfl, rfl, h0, r0⟩ := trodAll_cons hA
  obtain ⟨e9, e8, e7⟩ := trodAll_nil r0
  subst e9 e8 e7
  obtain rfl : args = #[v0] := by cases args; simp_all
  obtain ⟨rfl, rfl⟩ := trodVars_none hV
  have hv0 := hval 0 _ v0 rfl rfl
  clear hA0
  obtain ⟨fuel0, hf0⟩ := h0
  rw [one_of_ok Try.underlying5 rfl hv0] at hf0
  obtain ⟨z0, hcs0, hlo0, hhi0⟩ := int_of_trod Try.underlying5 hf0
  obtain rfl : v0 = .int .u8 z0 := by simpa using hcs0
  refine (walk W z0 hlo0 hhi0).mono fun e W' ⟨he, hb⟩ => ⟨_, he, ?_⟩
  exact law_post Try.laidOut (by kernel_rfl) (by kernel_rfl) Try.underlying4 rfl rfl rfl rfl hW' hb

set_option maxRecDepth 100000 in
theorem lifted (os : Os) (started : os.Started) (H : Type) (enc : TypeId × Value → H) (F : Stop.Interp) :
    ReturnsInHanded {} Try.checked os 13 .any ((OpenSpec.ofChange Rows.diskFullSpec).preRow enc Try.prog Try.f13 Rows.diskFullRow.domain false Rows.diskFullRow.laid) (((OpenSpec.ofChange Rows.diskFullSpec).at F).post enc Try.prog Try.f13 false true false false) := by
  obtain ⟨places, hx⟩ : ∃ places, DataW.whole enc Try.prog ((World.holding Try.prog os ⟨#[], #[], []⟩).forCall (fun _ _ => 0) ⟨#[], #[.int .u8 0], []⟩).memory Try.f13.params.toList Rows.diskFullSpec.vars false #[.int .u8 0].toList 8 = some ([.lit (.int .u8 0)], [], places) := ⟨[], by kernel_rfl⟩
  refine returnsInHanded_of_row (C := Try.checked) (s := OpenSpec.ofChange Rows.diskFullSpec) Try.own started (by kernel_rfl) Try.func13
    (witness_row_at (enc := enc) (C := Try.checked) false (World.holding Try.prog os ⟨#[], #[], []⟩) #[.int .u8 0] rfl (by kernel_rfl) (by kernel_rfl) (by kernel_rfl)
      (OpenSpec.preRow_of_cond 8 hx (by kernel_rfl) (fun k hk => by cases hk) (by kernel_rfl) (laid_none _ _))) ?_
  intro W base args ds gs before hval hW _ _ _ _ _ _
  exact contract H enc W base args ds gs before hval hW

theorem proved : Rows.DiskFullSaid :=
  OpenClaim.holds_of_cond 13 Try.f13 rfl rfl rfl rfl rfl rfl rfl ⟨rfl, rfl, rfl, rfl, rfl⟩ rfl rfl rfl rfl rfl (by kernel_rfl) Try.func13 (by kernel_rfl)
    (of_decide_eq_true (by kernel_rfl)) (by unfold Func.isWrapper; first | (rw [if_pos (by decide +kernel)]; kernel_rfl) | (rw [if_neg (by decide +kernel)]; exact ⟨rfl, rfl⟩))
    (fun os started H enc _ F => by rw [OpenClaim.pre_eq_preRow]; exact lifted os started H enc F)
end Go.Proofs.Ytlgcnnhlbkidmaa.lawDiskFull
