/-
  The statement DiskNobody: a disk that no call made has no files, and does nothing. No condition.
-/
import Derived.Test.YtlgcnnhlbkidmaaAwakeD
import Derived.Test.YtlgcnnhlbkidmaaDiskZ
import Derived.Test.YtlgcnnhlbkidmaaActD
namespace Go.Proofs.Ytlgcnnhlbkidmaa.lawDiskNobody
open Go.ChangeShapes Go.WideShapes Go.ChangeAt Go.RowKit

set_option maxRecDepth 100000 in
set_option maxHeartbeats 4000000 in
theorem walk (w : World) (a : ActDS) (h : ActD w a) :
    Calls Try.prog 15 #[.agg a.cells.toArray] w fun e w' => e = .returned (.bool true) ∧ Below w.heap.size w w' := by
  obtain ⟨kd, nm, tt, bv, b, n, cv, cuts⟩ := a
  have hrb := h.rb
  have hrc := h.rc
  simp only at hrb hrc
  obtain ⟨Ab, cb, rfl, _⟩ := id hrb
  obtain ⟨Ac, cc, rfl, _⟩ := id hrc
  obtain ⟨lb, hlb⟩ : ∃ l, (bs b).length = l := ⟨_, rfl⟩
  obtain ⟨lc, hlc⟩ : ∃ l, (cuts.map (Value.int .i64)).length = l := ⟨_, rfl⟩
  have FW := Lib.hid (fun (w' : World) (h1 : Below w.heap.size w w') (g : Nat) (hb : Blk w' g [.int .u8 kd, .string nm, .string tt, .slice Ab lb cb, .int .i64 n, .slice Ac lc cc] 116) => few09_any w' ⟨kd, nm, tt, .slice Ab lb cb, b, n, .slice Ac lc cc, cuts⟩ (by rw [← hlb, ← hlc]; exact h.stay h1 (Nat.le_refl _)) g hb)
  rw [hlb, hlc]
  change Calls Try.prog 15 #[.agg #[.int .u8 kd, .string nm, .string tt, .slice Ab lb cb, .int .i64 n, .slice Ac lc cc]] w _
  clear h hrb hrc hlb hlc
  have hb0 : Blk (w.alloc (.cells #[.int .u8 kd, .string nm, .string tt, .slice Ab lb cb, .int .i64 n, .slice Ac lc cc] 116)) w.heap.size [.int .u8 kd, .string nm, .string tt, .slice Ab lb cb, .int .i64 n, .slice Ac lc cc] 116 := Blk.mk_ _ rfl rfl
  have hl0 : Below w.heap.size w (w.alloc (.cells #[.int .u8 kd, .string nm, .string tt, .slice Ab lb cb, .int .i64 n, .slice Ac lc cc] 116)) := bw_al (Below.refl _ _) (Nat.le_refl _) _
  go_enter Try.func15, Try.ntmps15
  go_upto_region 1 with fail
  obtain ⟨w1, hw1⟩ : ∃ w1, w.alloc (.cells #[.int .u8 kd, .string nm, .string tt, .slice Ab lb cb, .int .i64 n, .slice Ac lc cc] 116) = w1 := ⟨_, rfl⟩
  have hz1 : w1.heap.size = w.heap.size + 1 := by rw [← hw1]; simp
  change Code.wp _ _ _ _ (w.alloc (.cells #[.int .u8 kd, .string nm, .string tt, .slice Ab lb cb, .int .i64 n, .slice Ac lc cc] 116))
  rw [hw1] at hb0 hl0 ⊢
  obtain ⟨g0, hg0⟩ : ∃ g, w.heap.size = g := ⟨_, rfl⟩
  rw [hg0] at hb0 hl0 hz1 FW ⊢
  have x0 := hb0.at_ 0 rfl
  have x1 := hb0.at_ 1 rfl
  have x2 := hb0.at_ 2 rfl
  have x3 := hb0.at_ 3 rfl
  have x4 := hb0.at_ 4 rfl
  have x5 := hb0.at_ 5 rfl
  have hl2 : Below g0 w (w1.alloc (.cells #[.int .u8 kd, .string nm, .string tt, .slice Ab lb cb, .int .i64 n, .slice Ac lc cc] 116)) := bw_al hl0 (by omega) _
  have F1 := Lib.hid (FW.out _ hl2 w1.heap.size (Blk.mk_ _ rfl rfl))
  have HG0 := Lib.hid (fun _ : Unit => hg0); have HB0 := Lib.hid hb0; have HL2 := Lib.hid hl2; have HZ1 := Lib.hid (fun _ : Unit => hz1)
  clear hg0 hb0 hl0 hl2 hz1 hw1 FW
  go_upto_region 3 with (first
    | (go_at_call 66; refine F1.out.mono ?_; rintro e w9 ⟨bf, rfl, hw9⟩; subst hw9; cases bf)
    | (go_at_call 50; refine (awake09_any _).mono ?_; rintro e w' ⟨rfl, hb'⟩))
  · go_ret
    exact ⟨rfl, by rw [HG0.out ()]; exact bw_then HL2.out hb' (by have := HL2.out.size; have := HG0.out (); omega)⟩
  have hb2 : Blk (w1.alloc (.cells #[.int .u8 kd, .string nm, .string tt, .slice Ab lb cb, .int .i64 n, .slice Ac lc cc] 116)) g0 _ _ := HB0.out.al _
  have hz2 : (w1.alloc (.cells #[.int .u8 kd, .string nm, .string tt, .slice Ab lb cb, .int .i64 n, .slice Ac lc cc] 116)).heap.size = g0 + 2 := by simp; have := HZ1.out (); omega
  have hl2 := HL2.out
  obtain ⟨g2, hg2⟩ : ∃ g2, g0 + 2 = g2 := ⟨_, rfl⟩
  rw [hg2] at hz2
  have HG2 := Lib.hid (fun _ : Unit => hg2)
  clear hg2
  generalize (w1.alloc (.cells #[.int .u8 kd, .string nm, .string tt, .slice Ab lb cb, .int .i64 n, .slice Ac lc cc] 116)) = w2 at *
  go_upto_region 4 with fail
  have hD : Blk ((w2.alloc (.cells #[.pointer none, .map none] 123)).alloc (.cells #[.pointer none, .pointer (some ⟨g2, 0, none⟩)] 95)) g2 [.pointer none, .map none] 123 := (Blk.mk_ w2 hz2.symm rfl).al _
  have hE : Blk ((w2.alloc (.cells #[.pointer none, .map none] 123)).alloc (.cells #[.pointer none, .pointer (some ⟨g2, 0, none⟩)] 95)) (g2 + 1) [.pointer none, .pointer (some ⟨g2, 0, none⟩)] 95 := Blk.mk_ _ (by simp; omega) rfl
  have hb4 := (hb2.al (.cells #[.pointer none, .map none] 123)).al (.cells #[.pointer none, .pointer (some ⟨g2, 0, none⟩)] 95)
  have hl4 : Below g0 w ((w2.alloc (.cells #[.pointer none, .map none] 123)).alloc (.cells #[.pointer none, .pointer (some ⟨g2, 0, none⟩)] 95)) := bw_al (bw_al hl2 (by have := HG2.out (); omega) _) (by have := HG2.out (); simp; omega) _
  obtain ⟨w4, hw4⟩ : ∃ w4, (w2.alloc (.cells #[.pointer none, .map none] 123)).alloc (.cells #[.pointer none, .pointer (some ⟨g2, 0, none⟩)] 95) = w4 := ⟨_, rfl⟩
  change Code.wp _ _ _ _ ((w2.alloc (.cells #[.pointer none, .map none] 123)).alloc (.cells #[.pointer none, .pointer (some ⟨g2, 0, none⟩)] 95))
  rw [hw4] at hD hE hb4 hl4 ⊢
  have y1 : ∀ w', Below w4.heap.size w4 w' → w'.cell? ⟨g0, 1, none⟩ = some (.string nm) := fun w' hb => (hb4.stay hb).at_ 1 rfl
  have y2 : ∀ w', Below w4.heap.size w4 w' → w'.cell? ⟨g0, 2, none⟩ = some (.string tt) := fun w' hb => (hb4.stay hb).at_ 2 rfl
  have y3 : ∀ w', Below w4.heap.size w4 w' → w'.cell? ⟨g0, 3, none⟩ = some (.slice Ab lb cb) := fun w' hb => (hb4.stay hb).at_ 3 rfl
  have y5 : ∀ w', Below w4.heap.size w4 w' → w'.cell? ⟨g0, 5, none⟩ = some (.slice Ac lc cc) := fun w' hb => (hb4.stay hb).at_ 5 rfl
  have z0 : ∀ w', Below w4.heap.size w4 w' → w'.cell? ⟨g2 + 1, 0, none⟩ = some (.pointer none) := fun w' hb => (hE.stay hb).at_ 0 rfl
  have z1 : ∀ w', Below w4.heap.size w4 w' → w'.cell? ⟨g2 + 1, 1, none⟩ = some (.pointer (some ⟨g2, 0, none⟩)) := fun w' hb => (hE.stay hb).at_ 1 rfl
  have HD := Lib.hid hD; have HL4 := Lib.hid hl4
  have hrf : Below w4.heap.size w4 w4 := Below.refl _ _
  clear hD hE hb4 hl4 hb2 hl2 hw4 hz2 x0 x1 x2 x3 x4 x5 F1
  go_wp2_with fail
  go_loopw [4] (fun x wr => ∃ (k : Nat), k ≤ 2 ∧ x = .int .i64 k ∧ Below w4.heap.size w4 wr) (fun x _ => 2 - (intOf x).toNat)
  case atStart => exact ⟨0, Nat.zero_le _, rfl, hrf⟩
  case round =>
    obtain ⟨k, hk, rfl, hbr⟩ := hrel
    obtain ⟨wq, rfl⟩ : ∃ wq : World, wq = wr := ⟨_, rfl⟩
    clear hrf
    rcases (show k = 0 ∨ k = 1 ∨ k = 2 by omega) with rfl | rfl | rfl
    · obtain ⟨v, hv⟩ : ∃ v, Value.pointer none = v := ⟨_, rfl⟩
      have DD := Lib.hid (fun (w' : World) (hb : Below w4.heap.size w4 w') => (show Dead w' v from .inl hv.symm))
      rw [hv] at z0
      clear hv
      go_wp2_with (first
            | (go_at_call 58; refine (crash_dead _ v _ (DD.out _ (by assumption))).mono ?_; rintro e w9 ⟨rfl, hb⟩; have hb9 := bw_next (by assumption) hb; clear hb)
            | (go_at_call 59; refine (read_dead _ v _ (DD.out _ (by assumption))).mono ?_; rintro e w9 ⟨rfl, hb⟩; have hb9 := bw_next (by assumption) hb; clear hb)
            | (go_at_call 61; refine (names_dead _ v (DD.out _ (by assumption))).mono ?_; rintro e w9 ⟨rfl, hb⟩; have hb9 := bw_next (by assumption) hb; clear hb)
            | (go_at_call 65; refine (image_dead _ v (DD.out _ (by assumption))).mono ?_; rintro e w9 ⟨rfl, hb⟩; have hb9 := bw_next (by assumption) hb; clear hb)
            | (go_at_call 55; refine (create_dead _ v _ (DD.out _ (by assumption))).mono ?_; rintro e w9 ⟨rfl, hb⟩; have hb9 := bw_next (by assumption) hb; clear hb)
            | (go_at_call 56; refine (append_dead _ v _ _ (DD.out _ (by assumption))).mono ?_; rintro e w9 ⟨rfl, hb⟩; have hb9 := bw_next (by assumption) hb; clear hb)
            | (go_at_call 57; refine (sync_dead _ v _ (DD.out _ (by assumption))).mono ?_; rintro e w9 ⟨rfl, hb⟩; have hb9 := bw_next (by assumption) hb; clear hb)
            | (go_at_call 67; refine (rename_dead _ v _ _ (DD.out _ (by assumption))).mono ?_; rintro e w9 ⟨rfl, hb⟩; have hb9 := bw_next (by assumption) hb; clear hb)
            | (go_at_call 68; refine (remove_dead _ v _ (DD.out _ (by assumption))).mono ?_; rintro e w9 ⟨rfl, hb⟩; have hb9 := bw_next (by assumption) hb; clear hb)
            | (go_at_call 60; refine (edit_dead _ v _ _ (DD.out _ (by assumption))).mono ?_; rintro e w9 ⟨rfl, hb⟩; have hb9 := bw_next (by assumption) hb; clear hb)
            | (go_at_call 62; refine (load_dead _ v _ (DD.out _ (by assumption))).mono ?_; rintro e w9 ⟨rfl, hb⟩; have hb9 := bw_next (by assumption) hb; clear hb))
      exact ⟨⟨1, by omega, rfl, by assumption⟩, by simp [intOf]⟩
    · obtain ⟨v, hv⟩ : ∃ v, Value.pointer (some ⟨g2, 0, none⟩) = v := ⟨_, rfl⟩
      have DD := Lib.hid (fun (w' : World) (hb : Below w4.heap.size w4 w') => (show Dead w' v from .inr ⟨g2, hv.symm, HD.out.stay hb⟩))
      rw [hv] at z1
      clear hv
      go_wp2_with (first
            | (go_at_call 58; refine (crash_dead _ v _ (DD.out _ (by assumption))).mono ?_; rintro e w9 ⟨rfl, hb⟩; have hb9 := bw_next (by assumption) hb; clear hb)
            | (go_at_call 59; refine (read_dead _ v _ (DD.out _ (by assumption))).mono ?_; rintro e w9 ⟨rfl, hb⟩; have hb9 := bw_next (by assumption) hb; clear hb)
            | (go_at_call 61; refine (names_dead _ v (DD.out _ (by assumption))).mono ?_; rintro e w9 ⟨rfl, hb⟩; have hb9 := bw_next (by assumption) hb; clear hb)
            | (go_at_call 65; refine (image_dead _ v (DD.out _ (by assumption))).mono ?_; rintro e w9 ⟨rfl, hb⟩; have hb9 := bw_next (by assumption) hb; clear hb)
            | (go_at_call 55; refine (create_dead _ v _ (DD.out _ (by assumption))).mono ?_; rintro e w9 ⟨rfl, hb⟩; have hb9 := bw_next (by assumption) hb; clear hb)
            | (go_at_call 56; refine (append_dead _ v _ _ (DD.out _ (by assumption))).mono ?_; rintro e w9 ⟨rfl, hb⟩; have hb9 := bw_next (by assumption) hb; clear hb)
            | (go_at_call 57; refine (sync_dead _ v _ (DD.out _ (by assumption))).mono ?_; rintro e w9 ⟨rfl, hb⟩; have hb9 := bw_next (by assumption) hb; clear hb)
            | (go_at_call 67; refine (rename_dead _ v _ _ (DD.out _ (by assumption))).mono ?_; rintro e w9 ⟨rfl, hb⟩; have hb9 := bw_next (by assumption) hb; clear hb)
            | (go_at_call 68; refine (remove_dead _ v _ (DD.out _ (by assumption))).mono ?_; rintro e w9 ⟨rfl, hb⟩; have hb9 := bw_next (by assumption) hb; clear hb)
            | (go_at_call 60; refine (edit_dead _ v _ _ (DD.out _ (by assumption))).mono ?_; rintro e w9 ⟨rfl, hb⟩; have hb9 := bw_next (by assumption) hb; clear hb)
            | (go_at_call 62; refine (load_dead _ v _ (DD.out _ (by assumption))).mono ?_; rintro e w9 ⟨rfl, hb⟩; have hb9 := bw_next (by assumption) hb; clear hb))
      exact ⟨⟨2, by omega, rfl, by assumption⟩, by simp [intOf]⟩
    · go_wp2_with (go_at_call 50; refine (awake09_any _).mono ?_; rintro e w' ⟨rfl, hb'⟩)
      all_goals go_ret
      refine ⟨rfl, ?_⟩
      rw [HG0.out ()]
      exact bw_then (HL4.out.trans (hbr.mono (by have := HL4.out.size; have := HG0.out (); omega))) hb' (by have := hbr.size; have := HL4.out.size; have := HG0.out (); omega)

set_option maxRecDepth 100000 in
theorem contract (H : Type) (enc : TypeId × Value → H) (W : World) (base : Nat) (args : Array Value) (ds gs : List (DataW H)) (before : List MemPlace)
    (hval : ∀ (j : Nat) t v, Try.f15.params[j]? = some t → args[j]? = some v → Value.okWide Try.prog W .any base t v)
    (hW : DataW.Whole enc Try.prog Try.f15.params.toList Rows.diskNobodySpec.vars false W args.toList ds gs before) :
    Calls Try.prog 15 args W fun e W' => ∃ v, e = .returned v ∧ Rows.diskNobodySpec.post enc Try.prog Try.f15 false true false false W args v W' := by
  have hW' := hW
  obtain ⟨p, q, hA0, hV, rfl, hfz, hnd⟩ := hW
  have hA : DataW.TrodAll enc Try.prog W 0 (fun _ => true) true Try.f15.params.toList args.toList ds p := hA0
  rw [Try.params15] at hA hval
  obtain ⟨v0, vs0, d0, ds0, p0, q0, hargs0, rfl, rfl, h0, r0⟩ := trodAll_cons hA
  obtain ⟨e9, e8, e7⟩ := trodAll_nil r0
  subst e9 e8 e7
  obtain rfl : args = #[v0] := by cases args; simp_all
  obtain ⟨rfl, rfl⟩ := trodVars_none hV
  have hv0 := hval 0 _ v0 rfl rfl
  clear hA0
  obtain ⟨fuel0, hf0⟩ := h0
  obtain ⟨a0, ha0, hcs0⟩ := actd_of_trod hf0
  obtain ⟨x0, rfl⟩ : ∃ cs, v0 = .agg cs := by simp only [Value.okWide] at hv0; obtain ⟨cs, h, _⟩ := hv0; exact ⟨cs, h⟩
  obtain rfl : x0 = a0.cells.toArray := by apply Array.toList_inj.1; simpa [Value.cells] using hcs0
  refine (walk W a0 ha0).mono fun e W' ⟨he, hb⟩ => ⟨_, he, ?_⟩
  exact law_post Try.laidOut (by kernel_rfl) (by kernel_rfl) Try.underlying4 rfl rfl rfl rfl hW' hb

set_option maxRecDepth 100000 in
theorem lifted (os : Os) (started : os.Started) (H : Type) (enc : TypeId × Value → H) (F : Stop.Interp) :
    ReturnsInHanded {} Try.checked os 15 .any ((OpenSpec.ofChange Rows.diskNobodySpec).preRow enc Try.prog Try.f15 Rows.diskNobodyRow.domain false Rows.diskNobodyRow.laid) (((OpenSpec.ofChange Rows.diskNobodySpec).at F).post enc Try.prog Try.f15 false true false false) := by
  obtain ⟨places, hx⟩ : ∃ places, DataW.whole enc Try.prog ((World.holding Try.prog os ⟨#[], #[], []⟩).forCall (fun _ _ => 0) ⟨#[], #[.agg #[.int .u8 0, .string ByteArray.empty, .string ByteArray.empty, .slice none 0 0, .int .i64 0, .slice none 0 0]], []⟩).memory Try.f15.params.toList Rows.diskNobodySpec.vars false #[.agg #[.int .u8 0, .string ByteArray.empty, .string ByteArray.empty, .slice none 0 0, .int .i64 0, .slice none 0 0]].toList 8 = some ([.agg [.lit (.int .u8 0), .lit (.string []), .lit (.string []), .nil, .lit (.int .i64 0), .nil]], [], places) := ⟨[], by kernel_rfl⟩
  refine returnsInHanded_of_row (C := Try.checked) (s := OpenSpec.ofChange Rows.diskNobodySpec) Try.own started (by kernel_rfl) Try.func15
    (witness_row_at (enc := enc) (C := Try.checked) false (World.holding Try.prog os ⟨#[], #[], []⟩) #[.agg #[.int .u8 0, .string ByteArray.empty, .string ByteArray.empty, .slice none 0 0, .int .i64 0, .slice none 0 0]] rfl (by kernel_rfl) (by kernel_rfl) (by kernel_rfl)
      (OpenSpec.preRow_of_cond 8 hx (by kernel_rfl) (fun k hk => by cases hk) (by kernel_rfl) (laid_none _ _))) ?_
  intro W base args ds gs before hval hW _ _ _ _ _ _
  exact contract H enc W base args ds gs before hval hW

theorem proved : Rows.DiskNobodySaid :=
  OpenClaim.holds_of_cond 15 Try.f15 rfl rfl rfl rfl rfl rfl rfl ⟨rfl, rfl, rfl, rfl, rfl⟩ rfl rfl rfl rfl rfl (by kernel_rfl) Try.func15 (by kernel_rfl)
    (of_decide_eq_true (by kernel_rfl)) (by unfold Func.isWrapper; first | (rw [if_pos (by decide +kernel)]; kernel_rfl) | (rw [if_neg (by decide +kernel)]; exact ⟨rfl, rfl⟩))
    (fun os started H enc _ F => by rw [OpenClaim.pre_eq_preRow]; exact lifted os started H enc F)
end Go.Proofs.Ytlgcnnhlbkidmaa.lawDiskNobody
