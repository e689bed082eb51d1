/-
  The statement WireFull: a way takes so many frames, and no more, whatever came of them; other ways still do. No condition.
-/
import Derived.Test.YtlgcnnhlbkidmaaWireZ
import Derived.Test.YtlgcnnhlbkidmaaKinds
namespace Go.Proofs.Ytlgcnnhlbkidmaa.lawWireFull
open Go.ChangeShapes Go.WideShapes Go.ChangeAt Go.RowKit Go.Conc

/-- Where the loop stands. -/
structure FullAt (w w1 wr : World) (B p : Nat) (gone : Bool) (i : Nat) (own : Nat → Option Spot) (L : List (List Int)) (g : Nat) : Prop where
  wire : Wire wr B p own [(L, g), ([], 0)]
  len : L.length = min i 200
  g : g = if gone then L.length else 0
  b : Below w.heap.size w wr
  s : w.heap.size ≤ wr.heap.size

set_option maxRecDepth 100000 in
set_option maxHeartbeats 4000000 in
theorem walk (w : World) (n : Int) (gone : Bool) (hn : 0 ≤ n ∧ n ≤ 255) :
    Calls Try.prog 4 #[.int .u8 n, .bool gone] w fun e w' => e = .returned (.bool true) ∧ Below w.heap.size w w' := by
  obtain ⟨m, rfl⟩ := Int.eq_ofNat_of_zero_le hn.1
  have hm : m ≤ 255 := by omega
  have hm0 : 0 ≤ (m : Int) := by omega
  have hm1 : (m : Int) ≤ 255 := by omega
  have NW := Lib.hid (newwire_any w 2 (by omega))
  clear hn
  go_enter Try.func4, Try.ntmps4
  go_upto_region 2 with (go_at_call 21; refine NW.out.mono ?_; rintro e w1 ⟨p, own, rfl, hw1, hb1⟩)
  have inv0 : FullAt w w1 w1 w.heap.size p gone 0 own [] 0 := ⟨hw1, rfl, by cases gone <;> rfl, hb1, hb1.size⟩
  have HI0 := Lib.hid inv0
  clear inv0 hw1 hb1
  generalize hB : w.heap.size = B at *
  have HBB := Lib.hid (fun _ : Unit => hB)
  clear hB
  go_wp2_with fail
  go_loopw [6] (fun x wr => ∃ (i : Nat) (own : Nat → Option Spot) (L : List (List Int)) (g : Nat), i ≤ m ∧ x = .int .i64 i ∧ FullAt w w1 wr B p gone i own L g) (fun x _ => m - (intOf x).toNat)
  case atStart => exact ⟨0, own, [], 0, Nat.zero_le _, rfl, HI0.out⟩
  case round =>
    obtain ⟨i, own2, L, g, hi, rfl, inv⟩ := hrel
    obtain ⟨wo, rfl⟩ : ∃ wo : World, wo = wr := ⟨_, rfl⟩
    have HI := Lib.hid inv
    clear inv HI0
    by_cases hlt : i < m
    · have hio : IsB [(i : Int)] := by intro z hz; simp at hz; omega
      by_cases h200 : i < 200
      · have hll : L.length = i := by rw [HI.out.len]; omega
        have HLL := Lib.hid (fun _ : Unit => hll)
        have S1 := Lib.hid (send_ok (wo.alloc (.cells #[.int .u8 i] 5)) B p own2 _ 0 (L, g) _ [(i : Int)] (HI.out.wire.stay (bw_al (Below.refl _ _) (Nat.le_refl _) _)) rfl (Rd.one wo (.int .u8 i) _) hio (by simp) (by show L.length < 200; omega))
        have hba : Below B w (wo.alloc (.cells #[.int .u8 i] 5)) := by rw [← HBB.out ()]; exact bw_al (by rw [HBB.out ()]; have := HI.out.b; rwa [HBB.out ()] at this) (by rw [HBB.out ()]; have := HI.out.s; rwa [HBB.out ()] at this) _
        have h200' : ¬ (200 : Int) ≤ (i : Int) := by omega
        clear hll
        cases gone with
        | false =>
          go_wp2_with (go_at_call 22; refine S1.out.mono ?_; rintro e w3 ⟨rfl, own3, hw3, ho3, ht3⟩; have HW3 := Lib.hid hw3; have HT3 := Lib.hid ht3; clear hw3 ho3 ht3)
          have hb3 : Below w.heap.size w w3 := by
            have h := (HI.out.wire.stay (bw_al (Below.refl _ _) (Nat.le_refl _) _)).bl hba HT3.out (fun _ h => h) (by have := hba.size; rwa [HBB.out ()] at this)
            rw [HBB.out ()]; exact h
          refine ⟨⟨i + 1, own3, L ++ [[(i : Int)]], g, by omega, rfl, HW3.out, by rw [List.length_append, HLL.out ()]; simp; omega, by have := HI.out.g; simpa using this, hb3, ?_⟩, by simp [intOf]; omega⟩
          have := hb3.size; omega
        | true =>
          go_upto_region 13 with (go_at_call 22; refine S1.out.mono ?_; rintro e w3 ⟨rfl, own3, hw3, ho3, ht3⟩; have HW3 := Lib.hid hw3; have HT3 := Lib.hid ht3; clear hw3 ho3 ht3)
          have hb3 : Below w.heap.size w w3 := by
            have h := (HI.out.wire.stay (bw_al (Below.refl _ _) (Nat.le_refl _) _)).bl hba HT3.out (fun _ h => h) (by have := hba.size; rwa [HBB.out ()] at this)
            rw [HBB.out ()]; exact h
          have hg : g = L.length := by have := HI.out.g; simpa using this
          have N1 := Lib.hid (next_ok w3 B p own3 _ 0 (L ++ [[(i : Int)]], g) HW3.out rfl (by simp; omega))
          have HG := Lib.hid (fun _ : Unit => hg)
          clear hg
          go_wp2_with (go_at_call 23; refine N1.out.mono ?_; rintro e w4 ⟨v4, rfl, _, hw4, ht4⟩; have HW4 := Lib.hid hw4; have HT4 := Lib.hid ht4; clear hw4 ht4)
          have hb4 : Below w.heap.size w w4 := by
            have h := HW3.out.bl (by rw [← HBB.out ()]; exact hb3) HT4.out (fun _ h => ⟨_, h⟩) (by have := hb3.size; rwa [HBB.out ()] at this)
            rw [HBB.out ()]; exact h
          have hg := HG.out ()
          refine ⟨⟨i + 1, own3, L ++ [[(i : Int)]], g + 1, by omega, rfl, HW4.out, by rw [List.length_append, HLL.out ()]; simp; omega, by simp; omega, hb4, ?_⟩, by simp [intOf]; omega⟩
          have := hb4.size; omega
      · have hll : L.length = 200 := by rw [HI.out.len]; omega
        have HLL := Lib.hid (fun _ : Unit => hll)
        have S1 := Lib.hid (send_full (wo.alloc (.cells #[.int .u8 i] 5)) B p own2 _ 0 (L, g) _ [(i : Int)] (HI.out.wire.stay (bw_al (Below.refl _ _) (Nat.le_refl _) _)) rfl (Rd.one wo (.int .u8 i) _) hio (by simp) (by show 200 ≤ L.length; omega))
        have hba : Below w.heap.size w (wo.alloc (.cells #[.int .u8 i] 5)) := bw_al HI.out.b HI.out.s _
        have h200' : (200 : Int) ≤ (i : Int) := by omega
        clear hll
        cases gone with
        | false =>
          go_wp2_with (go_at_call 22; refine S1.out.mono ?_; rintro e w3 ⟨rfl, hw3⟩)
          subst hw3
          refine ⟨⟨i + 1, own2, L, g, by omega, rfl, HI.out.wire.stay (bw_al (Below.refl _ _) (Nat.le_refl _) _), by rw [HLL.out ()]; omega, HI.out.g, hba, hba.size⟩, by simp [intOf]; omega⟩
        | true =>
          go_upto_region 13 with (go_at_call 22; refine S1.out.mono ?_; rintro e w3 ⟨rfl, hw3⟩)
          subst hw3
          have N1 := Lib.hid (next_empty (wo.alloc (.cells #[.int .u8 i] 5)) B p own2 _ 0 (L, g) (HI.out.wire.stay (bw_al (Below.refl _ _) (Nat.le_refl _) _)) rfl (by have := HI.out.g; simp at this; show L.length ≤ g; omega))
          go_wp2_with (go_at_call 23; refine N1.out.mono ?_; rintro e w4 ⟨rfl, hw4⟩)
          subst hw4
          refine ⟨⟨i + 1, own2, L, g, by omega, rfl, HI.out.wire.stay (bw_al (Below.refl _ _) (Nat.le_refl _) _), by rw [HLL.out ()]; omega, HI.out.g, hba, hba.size⟩, by simp [intOf]; omega⟩
    · obtain rfl : i = m := by omega
      have hll : L.length = min i 200 := HI.out.len
      have HLL := Lib.hid (fun _ : Unit => hll)
      have C1 := Lib.hid (count_ok wo B p own2 _ 0 (L, g) HI.out.wire rfl)
      have S1 := Lib.hid (send_ok wo B p own2 _ 1 ([], 0) (.slice none 0 0) [] HI.out.wire rfl (Rd.nil wo) (fun z hz => by simp at hz) (by simp) (by simp))
      have hmin : (min i 200 : Nat) = min (i : Int) 200 := by omega
      clear hll
      go_upto_region 17 with (first
        | (go_at_call 23; refine (next_nil _ _).mono ?_; rintro e w' ⟨rfl, rfl⟩)
        | (go_at_call 24; refine (pick_nil _ _ _).mono ?_; rintro e w' ⟨rfl, rfl⟩))
      have hml : ((L.length : Nat) : Int) = min (i : Int) 200 := by rw [HLL.out (), hmin]
      rw [hml] at C1
      have tc : True := trivial
      have ts : True := trivial
      go_wp2_with (first
        | (go_at_call 25; have _t := tc; refine C1.out.mono ?_; rintro e w' ⟨rfl, rfl⟩; clear tc)
        | (go_at_call 25; refine (count_nil _ _).mono ?_; rintro e w' ⟨rfl, rfl⟩)
        | (go_at_call 27; refine (waiting_nil _ _).mono ?_; rintro e w' ⟨rfl, rfl⟩)
        | (go_at_call 26; refine (lose_nil _ _).mono ?_; rintro e w' ⟨rfl, rfl⟩)
        | (go_at_call 22; have _t := ts; refine S1.out.mono ?_; rintro e w5 ⟨rfl, own5, hw5, ho5, ht5⟩; have HT5 := Lib.hid ht5; clear hw5 ho5 ht5 ts)
        | (go_at_call 22; refine (send_nil _ _ _).mono ?_; rintro e w' ⟨rfl, rfl⟩)
        | (go_at_call 16; refine (awake11_any _).mono ?_; rintro e w6 ⟨rfl, hb6⟩))
      all_goals (
        go_ret
        have hb5 : Below w.heap.size w w5 := by
          have h := HI.out.wire.bl (by rw [← HBB.out ()]; exact HI.out.b) HT5.out (fun _ h => h) (by rw [← HBB.out ()]; exact HI.out.s)
          rw [HBB.out ()]; exact h
        exact ⟨rfl, bw_then hb5 hb6 hb5.size⟩)

set_option maxRecDepth 100000 in
theorem contract (H : Type) (enc : TypeId × Value → H) (W : World) (base : Nat) (args : Array Value) (ds gs : List (DataW H)) (before : List MemPlace)
    (hval : ∀ (j : Nat) t v, Try.f4.params[j]? = some t → args[j]? = some v → Value.okWide Try.prog W .any base t v)
    (hW : DataW.Whole enc Try.prog Try.f4.params.toList Rows.wireFullSpec.vars false W args.toList ds gs before) :
    Calls Try.prog 4 args W fun e W' => ∃ v, e = .returned v ∧ Rows.wireFullSpec.post enc Try.prog Try.f4 false true false false W args v W' := by
  have hW' := hW
  obtain ⟨p, q, hA0, hV, rfl, hfz, hnd⟩ := hW
  have hA : DataW.TrodAll enc Try.prog W 0 (fun _ => true) true Try.f4.params.toList args.toList ds p := hA0
  rw [Try.params4] at hA hval
  obtain ⟨v0, vs0, d0, ds0, p0, q0, hargs0, rfl, rfl, h0, r0⟩ := trodAll_cons hA
  obtain ⟨v1, vs1, d1, ds1, p1, q1, hargs1, e1, rfl, h1, r1⟩ := trodAll_cons r0
  subst e1
  obtain ⟨e9, e8, e7⟩ := trodAll_nil r1
  subst e9 e8 e7
  obtain rfl : args = #[v0, v1] := by cases args; simp_all
  obtain ⟨rfl, rfl⟩ := trodVars_none hV
  have hv0 := hval 0 _ v0 rfl rfl
  have hv1 := hval 1 _ v1 rfl rfl
  clear hA0
  obtain ⟨fuel0, hf0⟩ := h0
  obtain ⟨fuel1, hf1⟩ := h1
  rw [one_of_ok Try.underlying5 rfl hv0] at hf0
  obtain ⟨z0, hcs0, hlo0, hhi0⟩ := int_of_trod Try.underlying5 hf0
  obtain rfl : v0 = .int .u8 z0 := by simpa using hcs0
  rw [one_of_ok Try.underlying4 rfl hv1] at hf1
  obtain ⟨z1, hcs1⟩ := bool_of_trod Try.underlying4 hf1
  obtain rfl : v1 = .bool z1 := by simpa using hcs1
  refine (walk W z0 z1 ⟨hlo0, hhi0⟩).mono fun e W' ⟨he, hb⟩ => ⟨_, he, ?_⟩
  exact law_post Try.laidOut (by kernel_rfl) (by kernel_rfl) Try.underlying4 rfl rfl rfl rfl hW' hb

set_option maxRecDepth 100000 in
theorem lifted (os : Os) (started : os.Started) (H : Type) (enc : TypeId × Value → H) (F : Stop.Interp) :
    ReturnsInHanded {} Try.checked os 4 .any ((OpenSpec.ofChange Rows.wireFullSpec).preRow enc Try.prog Try.f4 Rows.wireFullRow.domain false Rows.wireFullRow.laid) (((OpenSpec.ofChange Rows.wireFullSpec).at F).post enc Try.prog Try.f4 false true false false) := by
  obtain ⟨places, hx⟩ : ∃ places, DataW.whole enc Try.prog ((World.holding Try.prog os ⟨#[], #[], []⟩).forCall (fun _ _ => 0) ⟨#[], #[.int .u8 0, .bool false], []⟩).memory Try.f4.params.toList Rows.wireFullSpec.vars false #[.int .u8 0, .bool false].toList 8 = some ([.lit (.int .u8 0), .lit (.bool false)], [], places) := ⟨[], by kernel_rfl⟩
  refine returnsInHanded_of_row (C := Try.checked) (s := OpenSpec.ofChange Rows.wireFullSpec) Try.own started (by kernel_rfl) Try.func4
    (witness_row_at (enc := enc) (C := Try.checked) false (World.holding Try.prog os ⟨#[], #[], []⟩) #[.int .u8 0, .bool false] rfl (by kernel_rfl) (by kernel_rfl) (by kernel_rfl)
      (OpenSpec.preRow_of_cond 8 hx (by kernel_rfl) (fun k hk => by cases hk) (by kernel_rfl) (laid_none _ _))) ?_
  intro W base args ds gs before hval hW _ _ _ _ _ _
  exact contract H enc W base args ds gs before hval hW

theorem proved : Rows.WireFullSaid :=
  OpenClaim.holds_of_cond 4 Try.f4 rfl rfl rfl rfl rfl rfl rfl ⟨rfl, rfl, rfl, rfl, rfl⟩ rfl rfl rfl rfl rfl (by kernel_rfl) Try.func4 (by kernel_rfl)
    (of_decide_eq_true (by kernel_rfl)) (by unfold Func.isWrapper; first | (rw [if_pos (by decide +kernel)]; kernel_rfl) | (rw [if_neg (by decide +kernel)]; exact ⟨rfl, rfl⟩))
    (fun os started H enc _ F => by rw [OpenClaim.pre_eq_preRow]; exact lifted os started H enc F)
end Go.Proofs.Ytlgcnnhlbkidmaa.lawWireFull
