/-
  Texts of mine in one: PipeZ, AwakeB, PipeA, PipeU, PipeB, PipeC, TabC.
-/
import Derived.Test.YtdgpchacfdlleaaDoorPn5
import Derived.Lib.SlBytesConst
import Derived.Laws.BytesArg
section
/-
  pipe: an end that no call made.
-/
namespace Go.Proofs.YtdgpchacfdlleaaDoor
open Go.RowKit

def zeroPipe : List Value := [.pointer none, .int .i64 0, .int .i64 0, .int .i64 0, .int .i64 0, .int .i64 0, .int .i64 0, .int .i64 0, .int .i64 0, .int .i64 0, .int .i64 0, .int .i64 0, .int .i64 0, .int .i64 0, .int .i64 0, .int .i64 0, .int .i64 0, .int .i64 0, .bool false]
def DeadP (w : World) (v : Value) : Prop := v = .pointer none ∨ ∃ g, v = .pointer (some ⟨g, 0, none⟩) ∧ Blk w g zeroPipe 119
theorem DeadP.stay {w w' : World} {v : Value} (h : DeadP w v) (hb : Below w.heap.size w w') : DeadP w' v := h.imp id fun ⟨g, h1, h2⟩ => ⟨g, h1, h2.stay hb⟩
theorem DeadP.shape {w : World} {v : Value} (h : DeadP w v) : ∃ a, v = .pointer a := by
  rcases h with rfl | ⟨g, rfl, _⟩
  · exact ⟨_, rfl⟩
  · exact ⟨_, rfl⟩
theorem popen_dead (w : World) (v : Value) (h : DeadP w v) : Calls Tryd.prog 70 #[v] w fun e w' => e = .returned (.int .i64 2) ∧ w = w' := by
  rcases h with rfl | ⟨g, rfl, hb⟩
  · go_enter Tryd.func70, Tryd.ntmps70
    go_wp2_with fail
    all_goals (try go_ret)
    exact ⟨rfl, rfl⟩
  · have y0 := hb.at_ 0 (v := .pointer none) rfl
    clear hb
    go_enter Tryd.func70, Tryd.ntmps70
    go_wp2_with fail
    all_goals (try go_ret)
    exact ⟨rfl, rfl⟩
set_option maxRecDepth 100000 in
theorem pseal_dead (w : World) (v : Value) (h : DeadP w v) (kind : Int) (vt : Value) : Calls Tryd.prog 69 #[v, .int .u8 kind, vt] w fun e w' => e = .returned (.tuple #[.slice none 0 0, .int .i64 2]) ∧ w = w' := by
  have OP := Lib.hid (popen_dead w v h)
  clear h
  go_enter Tryd.func69, Tryd.ntmps69
  go_wp2_with (go_at_call 70; refine OP.out.mono ?_; rintro e w' ⟨rfl, hw⟩; subst hw)
  all_goals (try go_ret2)
  exact ⟨rfl, rfl⟩
set_option maxRecDepth 100000 in
theorem pSeal_dead (w : World) (v : Value) (h : DeadP w v) (vt : Value) : Calls Tryd.prog 34 #[v, vt] w fun e w' => e = .returned (.tuple #[.slice none 0 0, .int .i64 2]) ∧ w = w' := by
  have OP := Lib.hid (pseal_dead w v h 1 vt)
  clear h
  go_enter Tryd.func34, Tryd.ntmps34
  go_wp2_with (go_at_call 69; refine OP.out.mono ?_; rintro e w' ⟨rfl, hw⟩; subst hw)
  all_goals (try go_ret2)
  exact ⟨rfl, rfl⟩
set_option maxRecDepth 100000 in
theorem pOpen_dead (w : World) (v : Value) (h : DeadP w v) (vt : Value) : Calls Tryd.prog 35 #[v, vt] w fun e w' => e = .returned (.tuple #[.slice none 0 0, .int .i64 2]) ∧ w = w' := by
  have OP := Lib.hid (popen_dead w v h)
  clear h
  go_enter Tryd.func35, Tryd.ntmps35
  go_wp2_with (go_at_call 70; refine OP.out.mono ?_; rintro e w' ⟨rfl, hw⟩; subst hw)
  all_goals (try go_ret2)
  exact ⟨rfl, rfl⟩
set_option maxRecDepth 100000 in
theorem pClose_dead (w : World) (v : Value) (h : DeadP w v) : Calls Tryd.prog 40 #[v] w fun e w' => e = .returned (.tuple #[.slice none 0 0, .int .i64 2]) ∧ w = w' := by
  have OP := Lib.hid (pseal_dead w v h 2 (.slice none 0 0))
  clear h
  go_enter Tryd.func40, Tryd.ntmps40
  go_wp2_with (go_at_call 69; refine OP.out.mono ?_; rintro e w' ⟨rfl, hw⟩; subst hw)
  all_goals (try go_ret2)
  exact ⟨rfl, rfl⟩
theorem pup_dead (w : World) (v : Value) (h : DeadP w v) : Calls Tryd.prog 37 #[v] w fun e w' => e = .returned (.bool false) ∧ w = w' := by
  have OP := Lib.hid (popen_dead w v h)
  clear h
  go_enter Tryd.func37, Tryd.ntmps37
  go_wp2_with (go_at_call 70; refine OP.out.mono ?_; rintro e w' ⟨rfl, hw⟩; subst hw)
  all_goals (try go_ret)
  exact ⟨rfl, rfl⟩
set_option maxRecDepth 100000 in
theorem counts_dead (w : World) (v : Value) (h : DeadP w v) : Calls Tryd.prog 36 #[v] w fun e w' => e = .returned (.tuple #[.int .i64 0, .int .i64 0]) ∧ Below w.heap.size w w' := by
  rcases h with rfl | ⟨g, rfl, hb⟩
  · go_enter Tryd.func36, Tryd.ntmps36
    go_wp2_with fail
    all_goals (try go_ret2)
    exact ⟨rfl, Below.refl _ _⟩
  · have y4 : w.drew.cell? ⟨g, 4, none⟩ = some (.int .i64 0) := hb.d1.at_ 4 rfl
    have y14 : w.drew.cell? ⟨g, 14, none⟩ = some (.int .i64 0) := hb.d1.at_ 14 rfl
    have y17 : w.drew.cell? ⟨g, 17, none⟩ = some (.int .i64 0) := hb.d1.at_ 17 rfl
    have HD := Lib.hid (show Below w.heap.size w w.drew from bw_d1 (Below.refl _ _))
    clear hb
    go_enter Tryd.func36, Tryd.ntmps36
    go_upto_region 3 with fail
    refine region_plan ⟨[0, 0, 2, 6, 14, 1, 33, 127, 255, 511, 0, 0, 2048, 6144, 14336, 30720, 1024, 66560, 261120, 523264, 1047552, 1023, 4194303], [], [0, 0, 0, 0, 0, 0, 0, 0, 0, 0, 0, 0, 0, 0, 0, 0, 0, 0, 0, 0, 0, 0, 0]⟩
      [⟨[0, 1, 2, 3, 4, 5, 6, 7, 8, 9, 10, 11, 12, 13, 14, 15, 16, 17, 18, 19, 20, 21, 22], [2, 3, 4, 5, 6, 7, 8, 9, 12, 13, 14, 15, 16, 17, 18, 19, 20], none⟩] 27 (by kernel_rfl) (by kernel_rfl) (by kernel_rfl) (by kernel_rfl) rfl ?_
    simp only [SeqGo, opsAt_cons, opsAt_nil, List.getElem?_cons, Option.toList_some, List.singleton_append, ↓reduceIte, Nat.reduceEqDiff, Nat.reduceSub]
    go_wp2_with fail
    iterate 3 (try (first | refine And.intro (a := True) trivial ?_ | refine And.intro (show Sames _ _ _ _ _ from by (simp only [Sames, Same]; go_simp; try (first | rfl | decide))) ?_); try go_wp2_with fail)
    all_goals (try go_ret2)
    exact ⟨rfl, HD.out⟩

/-! ### The laws' constants -/
def k23 : KeyS := ⟨1, 2, 3⟩
theorem keys23_any (w : World) : Calls Tryd.prog 33 #[] w fun e w' => e = .returned (.agg #[.int .i64 1, .int .i64 2, .int .i64 3]) ∧ Below w.heap.size w w' := by
  go_enter Tryd.func33, Tryd.ntmps33
  go_wp2_with (refine wp_store_blk rfl 68 (.tmp 0) (.tmp 1) rfl rfl rfl (cs' := [.int .i64 1, .int .i64 2, .int .i64 3]) (Blk.mk_ (cs := [.int .i64 0, .int .i64 0, .int .i64 0]) _ rfl rfl) (by intro y hy; simp at hy; rcases hy with rfl | rfl | rfl <;> rfl) rfl (n := 3) (by kernel_rfl) rfl ?_; intro w2 b2 on2)
  refine ret_blk rfl rfl b2 Tryd.underlying68 rfl (n := 3) (by kernel_rfl) rfl rfl ?_
  exact ⟨rfl, on2.below (bw_al (Below.refl _ _) (Nat.le_refl _) _) (Nat.le_refl _)⟩
theorem wide23_any (w : World) : Calls Tryd.prog 50 #[] w fun e w' => e = .returned (.agg #[.int .i64 0, .int .i64 1000, .int .i64 0, .int .i64 0, .int .i64 0, .int .i64 1000, .int .i64 0]) ∧ Below w.heap.size w w' := by
  go_enter Tryd.func50, Tryd.ntmps50
  go_wp2_with (refine wp_store_blk rfl 64 (.tmp 0) (.tmp 1) rfl rfl rfl (cs' := [.int .i64 0, .int .i64 1000, .int .i64 0, .int .i64 0, .int .i64 0, .int .i64 1000, .int .i64 0]) (Blk.mk_ (cs := [.int .i64 0, .int .i64 0, .int .i64 0, .int .i64 0, .int .i64 0, .int .i64 0, .int .i64 0]) _ rfl rfl) (by intro y hy; simp at hy; rcases hy with rfl | rfl | rfl | rfl | rfl | rfl | rfl <;> rfl) rfl (n := 7) (by kernel_rfl) rfl ?_; intro w2 b2 on2)
  refine ret_blk rfl rfl b2 Tryd.underlying64 rfl (n := 7) (by kernel_rfl) rfl rfl ?_
  exact ⟨rfl, on2.below (bw_al (Below.refl _ _) (Nat.le_refl _) _) (Nat.le_refl _)⟩
end Go.Proofs.YtdgpchacfdlleaaDoor
end

section
/-
  box: the law's example.
-/
namespace Go.Proofs.YtdgpchacfdlleaaDoor
open Go.RowKit

def kid1 : Kid := ⟨3, 0, 0, 0, 0, 0⟩
def st81 : BoxI := ⟨[⟨kid1, 0, [], [7]⟩], [], [(kid1, 0)]⟩
def st82 : BoxI := ⟨[⟨kid1, 0, [], [7]⟩], [⟨kid1, [109]⟩], [(kid1, 0)]⟩
theorem kid1_in : kid1.In := by intro z hz; simp [Kid.nums, kid1] at hz; omega
theorem aw81 : sealS BoxI.new kid1 0 [] [7] = (0, putL 0 17, st81) := by
  have : askB kid1 0 = 0 := by decide
  unfold sealS; rw [if_neg (by rw [this]; decide), if_neg (by decide)]; rfl
theorem aw82 : openS st81 kid1 0 [] (putL 0 17) = (0, [7]) := by
  have := open_sealS (st := BoxI.new) (id := kid1) (n := 0) (ad := []) (text := [7]) (by rw [aw81]) (by decide) st81 ⟨[], by rw [aw81]; rfl⟩
  rwa [aw81] at this
theorem aw83 : openS st81 kid1 1 [] (putL 0 17) = (6, []) := by
  have h1 : askB kid1 1 = 0 := by decide
  have h2 : findL (putL 0 17) st81.seals.length = some 0 := findL_put (by decide) (by decide) (by decide)
  unfold openS
  rw [if_neg (by rw [h1]; decide), if_neg (by rw [putL_len _ _ (by decide)]; decide), if_neg (by rw [putL_len _ _ (by decide)]; decide), h2]
  simp [st81]
theorem aw84 : markS st81 kid1 [109] = (0, putL 0 32, st82) := by
  have : askB kid1 0 = 0 := by decide
  unfold markS; rw [if_neg (by rw [this]; decide)]; rfl
theorem aw85 (c : Int) : checkS st82 kid1 [c] (putL 0 32) = decide (c = 109) := by
  have h1 : askB kid1 0 = 0 := by decide
  have h2 : findL (putL 0 32) st82.marks.length = some 0 := findL_put (by decide) (by decide) (by decide)
  unfold checkS
  rw [if_neg (by rw [h1, putL_len _ _ (by decide)]; decide), h2]
  simp [st82]
  exact eq_comm
theorem one_any (w : World) : Calls Tryd.prog 51 #[] w fun e w' => e = .returned (.agg #[.int .i64 3, .int .i64 0, .int .i64 0, .int .i64 0, .int .i64 0, .int .i64 0]) ∧ Below w.heap.size w w' := by
  go_enter Tryd.func51, Tryd.ntmps51
  go_wp2_with (refine wp_store_blk rfl 23 (.tmp 0) (.tmp 1) rfl rfl rfl (cs' := [.int .i64 3, .int .i64 0, .int .i64 0, .int .i64 0, .int .i64 0, .int .i64 0]) (Blk.mk_ (cs := [.int .i64 0, .int .i64 0, .int .i64 0, .int .i64 0, .int .i64 0, .int .i64 0]) _ rfl rfl) (by intro y hy; simp at hy; rcases hy with rfl | rfl <;> rfl) rfl (n := 6) (by kernel_rfl) rfl ?_; intro w1 b1 on1)
  refine ret_blk rfl rfl b1 Tryd.underlying23 rfl (n := 6) (by kernel_rfl) rfl rfl ?_
  exact ⟨rfl, on1.below (bw_al (Below.refl _ _) (Nat.le_refl _) _) (Nat.le_refl _)⟩
theorem isB1 (c : Int) (h : 0 ≤ c ∧ c ≤ 255) : IsB [c] := by intro z hz; simp at hz; subst hz; exact h
theorem rd_frz (w : World) (xs : List Int) (fr : Nat × Nat) (hl : xs.length ≤ 9223372036854775807) : Rd (w.alloc (.cells (bs xs).toArray 5 fr)) (.slice (some ⟨w.heap.size, 0, none⟩) xs.length xs.length) (bs xs) := by
  refine ⟨_, _, by rw [bs_len], by rw [bs_len]; exact Nat.le_refl _, by unfold maxLen; omega, (fun h => by cases h), .inr ⟨w.heap.size, 0, rfl, fun j hj => ?_⟩⟩
  rw [Nat.zero_add]
  have h0 : (w.alloc (.cells (bs xs).toArray 5 fr)).heap[w.heap.size]? = some (.cells (bs xs).toArray 5 fr) := by
    show (w.heap.push _)[w.heap.size]? = _
    simp
  simp only [World.cell?, h0]
  simp [hj]
theorem hold_at {a n c b : Nat} (h : hold (.slice (some ⟨a, 0, none⟩) n c) b) : b = a := by
  obtain ⟨o, n', c', h⟩ := h
  cases h
  rfl
theorem awEq1 (w' : World) (u v : Value) (hu : Rd w' u (bs (putL 0 17))) (hv : Rd w' v (bs (List.replicate 17 0))) : Calls Tryd.prog 20 #[u, v] w' fun e w2 => e = .returned (.bool true) ∧ w' = w2 := by
  have eq1 : eqB (putL 0 17) (List.replicate 17 0) = true := by decide +kernel
  have := equal_any u v _ _ w' hu hv (putL_isB _ _) (by intro z hz; have := (List.mem_replicate.1 hz).2; omega)
  rwa [eq1] at this
theorem awEq2 (w' : World) (u v : Value) (hu : Rd w' u (bs [7])) (hv : Rd w' v (bs [7])) : Calls Tryd.prog 20 #[u, v] w' fun e w2 => e = .returned (.bool true) ∧ w' = w2 := by
  have eq2 : eqB [7] [7] = true := by decide
  have := equal_any u v _ _ w' hu hv (isB1 _ (by decide)) (isB1 _ (by decide))
  rwa [eq2] at this
theorem mk17 (w : World) : (Instr.makeSlice 24 (.int .i64 17) (.int .i64 17)).run Tryd.prog w = .ok (.slice (some ⟨w.heap.size, 0, none⟩) 17 17) (w.alloc (.cells (bs (List.replicate 17 0)).toArray 5)) := by
  obtain ⟨i, hi, hz0, hz1, hz2⟩ := info_parts info5
  have := run_make (P := Tryd.prog) w 24 5 i (.int .u8 0) Tryd.underlying24 hi hz0 .i64 .i64 17 17 (by decide) (by decide) (by rw [hz2]; decide) (by decide)
  rw [this, hz1]
  have e : madeCells (Value.int .u8 0).cells (Int.toNat 17 * 1) = (bs (List.replicate 17 0)).toArray := by
    apply Array.toList_inj.1
    rw [show (Value.int .u8 0).cells = #[Value.int .u8 0] from rfl, toList_madeCells_one]
    simp [bs]
  rw [e]
  rfl
def R0 : RealF := ⟨fun _ _ _ _ _ => [], fun _ _ _ _ _ => (0, []), fun _ _ _ => []⟩
theorem few81 : Few st81 := ⟨by decide, by decide, by decide⟩
theorem few80 : Few BoxI.new := ⟨by decide, by decide, by decide⟩
set_option maxRecDepth 100000 in
set_option maxHeartbeats 600000 in
theorem awake08_any (w : World) : Calls Tryd.prog 16 #[] w fun e w' => e = .returned (.bool true) ∧ Below w.heap.size w w' := by
  have kc := fun (w : World) (C : Array Value) (n c : Nat) => Lib.run_convert_bytes_const (P := Tryd.prog) w 24 5 C n c Tryd.underlying24 Tryd.underlying5
  go_enter Tryd.func16, Tryd.ntmps16
  go_upto_region 2 with (go_at_call 17; refine (newU w _ _ [115] true (rd_frz w [115] (1, 2) (by decide)) (isB1 _ (by decide)) (by decide) (bw_al (Below.refl _ _) (Nat.le_refl _) _)).mono ?_; rintro e w1 ⟨g, own, rfl, hw1, hb1, _⟩)
  have U1 := Lib.hid hw1
  clear hw1 hb1
  go_upto_region 3 with (first
    | (go_at_call 51; refine (one_any _).mono ?_; rintro e w2 ⟨rfl, hb2⟩)
    | (go_at_call 18; have u2 := (U1.out.stay hb2).stay (bw_al (Below.refl _ _) (Nat.le_refl _) (.cells #[.int .u8 7] 5)); have C := sealU R0 (Kind.ideal _) u2 few80 kid1 0 kid1_in (by unfold InI; omega) (.slice none 0 0) (.slice (some ⟨w2.heap.size, 0, none⟩) 1 1) [] [7] (Rd.nil _) isB_nil (Rd.one _ _ _) (isB1 _ (by decide)) (fun _ b hb => absurd hb (no_hold b)) (fun _ b hb => by rw [hold_at hb]; exact (U1.out.stay hb2).fresh (Nat.le_refl _)); rw [sealX_ideal, aw81] at C; refine C.mono ?_; rintro e w3 ⟨v3, own3, rfl, r3, q3, hu3, _, _⟩; clear C u2; obtain ⟨A3, c3, rfl, _⟩ := id r3))
  have U3 := Lib.hid hu3; have R3 := Lib.hid r3
  have L17 : (bs (putL 0 17)).length = 17 := by rw [bs_len, putL_len _ _ (by decide)]
  rw [L17] at R3 ⊢
  have N3 := Lib.hid (fun b hb => (q3 b hb).2.2)
  rw [L17] at N3
  clear hu3 r3 q3 hb2 L17
  go_upto_region 4 with (first
    | (go_at_call 51; refine (one_any _).mono ?_; rintro e w4 ⟨rfl, hb4⟩)
    | (go_at_call 19; have C := openU R0 (Kind.ideal _) (U3.out.stay hb4) kid1 0 (.slice none 0 0) _ [] (putL 0 17) (Rd.nil _) isB_nil (R3.out.stay hb4 (Nat.le_refl _)) (putL_isB _ _); rw [openX_ideal, aw82] at C; refine C.mono ?_; rintro e w5 ⟨v5, rfl, r5, q5, hb5⟩; clear C; obtain ⟨A5, c5, rfl, _⟩ := id r5))
  have U5 := Lib.hid ((U3.out.stay hb4).stay hb5); have R35 := Lib.hid (R3.out.stay (bw_next hb4 hb5) (Nat.le_refl _)); have R5 := Lib.hid r5; have N5 := Lib.hid (fun b hb => (U3.out.stay hb4).fresh (q5 b hb).1)
  clear hb4 hb5 r5 R3 U3 q5
  go_upto_region 5 with (first
    | (go_at_call 51; refine (one_any _).mono ?_; rintro e w6 ⟨rfl, hb6⟩)
    | (go_at_call 19; have C := openU R0 (Kind.ideal _) (U5.out.stay hb6) kid1 1 (.slice none 0 0) _ [] (putL 0 17) (Rd.nil _) isB_nil (R35.out.stay hb6 (Nat.le_refl _)) (putL_isB _ _); rw [openX_ideal, aw83] at C; refine C.mono ?_; rintro e w7 ⟨v7, rfl, r7, _, hb7⟩; clear C; obtain ⟨A7, c7, rfl, _⟩ := id r7))
  have U7 := Lib.hid ((U5.out.stay hb6).stay hb7); have R37 := Lib.hid (R35.out.stay (bw_next hb6 hb7) (Nat.le_refl _)); have R57 := Lib.hid (R5.out.stay (bw_next hb6 hb7) (Nat.le_refl _))
  clear hb6 hb7 r7 R35 R5 U5
  go_upto_region 6 with (first
    | (go_at_call 51; refine (one_any _).mono ?_; rintro e w8 ⟨rfl, hb8⟩)
    | (go_at_call 22; have u8 := (U7.out.stay hb8).stay (bw_al (Below.refl _ _) (Nat.le_refl _) (.cells #[.int .u8 109] 5 (1, 2))); have C := markU R0 (Kind.ideal _) u8 few81 kid1 _ [109] (rd_frz w8 [109] (1, 2) (by decide)) (isB1 _ (by decide)) (by decide); rw [markX_ideal, aw84] at C; refine C.mono ?_; rintro e w9 ⟨v9, own9, rfl, r9, q9, hu9, _, ht9, _⟩; clear C u8; obtain ⟨A9, c9, rfl, _⟩ := id r9))
  have l89 : Turns own3 w7 w9 := (Turns.of_below (bw_next hb8 (bw_al (Below.refl _ _) (Nat.le_refl _) (.cells #[.int .u8 109] 5 (1, 2))))).trans ht9
  have R39 := Lib.hid (R37.out.moves l89 N3.out)
  have R59 := Lib.hid (R57.out.moves l89 N5.out)
  have U9 := Lib.hid hu9; have R9 := Lib.hid r9
  have L32 : (bs (putL 0 32)).length = 32 := by rw [bs_len, putL_len _ _ (by decide)]
  rw [L32] at R9 ⊢
  have EQ1 := Lib.hid awEq1
  have EQ2 := Lib.hid awEq2
  have m17 := mk17
  have tokA : True := trivial
  have tokE : True := trivial
  have tokF : True := trivial
  have tokB : True := trivial
  have tokC : True := trivial
  clear hu9 r9 q9 hb8 l89 ht9 L32 R37 R57 N3 N5 U7
  go_wp2_with (first
    | (have _t := tokE; clear _t tokE; go_at_call 20; (refine (EQ1.out _ _ _ (R39.out.stay (bw_al (Below.refl _ _) (Nat.le_refl _) _) (Nat.le_refl _)) (Rd.of_blk (cs := bs (List.replicate 17 0)) (Blk.mk_ _ rfl rfl) (by decide))).mono ?_); rintro e wa ⟨rfl, rfl⟩)
    | (have _t := tokF; clear _t tokF; go_at_call 20; (refine (EQ2.out _ _ _ (R59.out.stay (bw_al (bw_al (Below.refl _ _) (Nat.le_refl _) _) (by simp) _) (Nat.le_refl _)) (Rd.of_blk (cs := bs [7]) (Blk.mk_ _ (by simp) rfl) (by decide))).mono ?_); rintro e wa ⟨rfl, rfl⟩)
    | (have _t := tokA; clear _t tokA; go_at_call 51; refine (one_any _).mono ?_; rintro e wc ⟨rfl, hbc⟩; have hb9c := bw_then (B := w9.heap.size) (bw_al (bw_al (Below.refl _ _) (Nat.le_refl _) _) (by simp) _) hbc (by simp; omega))
    | (have _t := tokC; clear _t tokC; go_at_call 24; have hk := bw_next hb9c (bw_al (Below.refl _ _) (Nat.le_refl _) (.cells #[.int .u8 109] 5 (1, 2))); have C := checkU R0 (Kind.ideal _) (U9.out.stay hk) kid1 _ _ [109] (putL 0 32) (rd_frz wc [109] (1, 2) (by decide)) (isB1 _ (by decide)) (R9.out.stay hk (Nat.le_refl _)) (putL_isB _ _); rw [checkX_ideal, aw85, show decide ((109 : Int) = 109) = true from rfl] at C; refine C.mono ?_; rintro e we ⟨rfl, hbe⟩; have hb9e := bw_next hk hbe; clear C hk hbe)
    | (have _t := tokB; clear _t tokB; go_at_call 51; refine (one_any _).mono ?_; rintro e wf ⟨rfl, hbf⟩; have hb9f := bw_next hb9e hbf)
    | (go_at_call 24; have hk := bw_next hb9f (bw_al (Below.refl _ _) (Nat.le_refl _) (.cells #[.int .u8 110] 5 (1, 2))); have C := checkU R0 (Kind.ideal _) (U9.out.stay hk) kid1 _ _ [110] (putL 0 32) (rd_frz wf [110] (1, 2) (by decide)) (isB1 _ (by decide)) (R9.out.stay hk (Nat.le_refl _)) (putL_isB _ _); rw [checkX_ideal, aw85, show decide ((110 : Int) = 109) = false from rfl] at C; refine C.mono ?_; rintro e wh ⟨rfl, hbh⟩; have hb9h := bw_next hk hbh; clear C hk hbh)
    | (go_at_call 29; have C := sealed_any (U9.out.stay hb9h).box; rw [show ((st82.uses.length : Nat) : Int) = 1 from rfl] at C; refine C.mono ?_; rintro e wi ⟨rfl, rfl⟩; clear C)
    | (go_at_call 30; have C := repeats_any (U9.out.stay hb9h).box; rw [show ((reps st82.uses : Nat) : Int) = 0 from rfl] at C; refine C.mono ?_; rintro e wi ⟨rfl, rfl⟩; clear C))
  go_wp2_with fail
  all_goals (try go_ret)
  exact ⟨rfl, (U9.out.stay hb9h).low⟩
end Go.Proofs.YtdgpchacfdlleaaDoor
end

section
/-
  pipe: the law's example; no end of a side that there is not, or of no box.
-/
namespace Go.Proofs.YtdgpchacfdlleaaDoor
open Go.RowKit

set_option maxRecDepth 100000 in
set_option maxHeartbeats 1000000 in
theorem pnew_side (R : RealF) {w0 w : World} {own : Nat → Prop} {gb : Nat} {sec : List Int} {ideal : Bool} {st : BoxI} (hK : Kind R ideal) (hb : BoxUp w0 w own gb sec ideal st) (side : Int) (hs : side < 0 ∨ 1 < side) (k0 k1 k2 : Int) (n0 n1 n2 n3 n4 n5 n6 : Int) :
    Calls Tryd.prog 32 #[.pointer (some ⟨gb, 0, none⟩), .agg #[.int .i64 k0, .int .i64 k1, .int .i64 k2], .int .i64 side, .agg #[.int .i64 n0, .int .i64 n1, .int .i64 n2, .int .i64 n3, .int .i64 n4, .int .i64 n5, .int .i64 n6]] w fun e w' =>
      e = .returned (.pointer none) ∧ Below w.heap.size w w' := by
  have OPN := Lib.hid (fun (w' : World) (hw : Below w.heap.size w w') => by
    have := openU R hK (hb.stay hw) kid0 0 (.slice none 0 0) (.slice none 0 0) [] [] (Rd.nil _) isB_nil (Rd.nil _) isB_nil
    rw [open_kid0] at this
    exact this)
  have BB := Lib.hid (bw_al (bw_al (Below.refl w.heap.size w) (Nat.le_refl _) (.cells #[.int .i64 k0, .int .i64 k1, .int .i64 k2] 68)) (by simp) (.cells #[.int .i64 n0, .int .i64 n1, .int .i64 n2, .int .i64 n3, .int .i64 n4, .int .i64 n5, .int .i64 n6] 64))
  clear hK hb
  rcases hs with hs | hs
  · go_enter Tryd.func32, Tryd.ntmps32
    go_wp2_with (go_at_call 19; refine (OPN.out _ BB.out).mono ?_; rintro e w1 ⟨v1, rfl, -, -, m1⟩)
    all_goals (try go_ret)
    exact ⟨rfl, bw_then BB.out m1 BB.out.size⟩
  · have h0 : ¬ side < 0 := by omega
    go_enter Tryd.func32, Tryd.ntmps32
    go_wp2_with (go_at_call 19; refine (OPN.out _ BB.out).mono ?_; rintro e w1 ⟨v1, rfl, -, -, m1⟩)
    all_goals (try go_ret)
    exact ⟨rfl, bw_then BB.out m1 BB.out.size⟩
set_option maxRecDepth 100000 in
set_option maxHeartbeats 1000000 in
theorem pnew_nil (w : World) (side k0 k1 k2 : Int) (n0 n1 n2 n3 n4 n5 n6 : Int) :
    Calls Tryd.prog 32 #[.pointer none, .agg #[.int .i64 k0, .int .i64 k1, .int .i64 k2], .int .i64 side, .agg #[.int .i64 n0, .int .i64 n1, .int .i64 n2, .int .i64 n3, .int .i64 n4, .int .i64 n5, .int .i64 n6]] w fun e w' =>
      e = .returned (.pointer none) ∧ Below w.heap.size w w' := by
  have OPN := Lib.hid (fun (w' : World) => open_dead w' (.pointer none) (.inl rfl) (.int .i64 0) (.int .i64 0) (.int .i64 0) (.int .i64 0) (.int .i64 0) (.int .i64 0) (.slice none 0 0) (.slice none 0 0) 0)
  have BB := Lib.hid (bw_al (bw_al (Below.refl w.heap.size w) (Nat.le_refl _) (.cells #[.int .i64 k0, .int .i64 k1, .int .i64 k2] 68)) (by simp) (.cells #[.int .i64 n0, .int .i64 n1, .int .i64 n2, .int .i64 n3, .int .i64 n4, .int .i64 n5, .int .i64 n6] 64))
  go_enter Tryd.func32, Tryd.ntmps32
  go_wp2_with (go_at_call 19; refine (OPN.out _).mono ?_; rintro e w1 ⟨rfl, m1⟩)
  all_goals (try go_ret)
  exact ⟨rfl, bw_then BB.out m1 BB.out.size⟩

/-! ### Two ends by one box -/
section
variable {w0 w w' : World} {own own' : Nat → Prop} {g0 g1 gb : Nat} {p0 p1 p0' : PipeS} {sec : List Int} {ideal : Bool} {st st' : BoxI}
theorem PipeUp.other (h : PipeUp w0 w own g1 gb p1 sec ideal st) (h' : PipeUp w0 w' own' g0 gb p0' sec ideal st') (e : ∀ b, b < w.heap.size → (own' b ↔ own b)) (t : Turns (fun k => own k ∨ k = g0) w w') (hne : g1 ≠ g0) : PipeUp w0 w' own' g1 gb p1 sec ideal st' :=
  ⟨h'.box, h.blk.turns t (fun hh => hh.elim h.no hne), h.up, fun ho => h.no ((e _ h.blk.lt).1 ho)⟩
theorem PipeUp.beside (h : PipeUp w0 w own g1 gb p1 sec ideal st) (h' : PipeUp w0 w' own g0 gb p0' sec ideal st) (t : Turns (fun k => k = g0) w w') (hne : g1 ≠ g0) : PipeUp w0 w' own g1 gb p1 sec ideal st :=
  ⟨h'.box, h.blk.turns t hne, h.up, h.no⟩
end

/-! ### The example -/
def P230 : PipeS := newP k23 0 1000 1000
def P231 : PipeS := newP k23 1 1000 1000
def st231 : BoxI := ⟨[⟨fid k23 0 0, 0, [], [1, 104, 105]⟩], [], [(fid k23 0 0, 0)]⟩
theorem k23_in : ∀ e s : Int, InI e → InI s → (fid k23 e s).In := by
  intro e s he hs z hz
  unfold InI at he hs
  simp [fid, k23, Kid.nums] at hz
  rcases hz with h | h | h | h | h | h <;> subst h <;> omega
theorem k23_ok (s : Nat) (hs : s < 2) : (fid k23 0 s).ok = true := by
  rcases (show s = 0 ∨ s = 1 by omega) with rfl | rfl <;> decide
theorem pw1 : psealF R0 [] true BoxI.new P230 1 [104, 105] = (0, 4 :: putL 0 19, st231, P230.step 0) := by
  have h1 : askB (fid k23 0 0) 0 = 0 := by decide
  have h2 : P230.spent P230.side = false := by decide
  unfold psealF
  rw [if_neg (by decide), if_neg (by decide), if_neg (by rw [h2]; decide)]
  simp only [sealX_ideal]
  have h3 : sealS BoxI.new (fid P230.k ((P230.cnt P230.side / P230.S : Nat) : Int) ((P230.side : Nat) : Int)) ((P230.cnt P230.side % P230.S : Nat) : Int) [] (1 :: [104, 105]) = (0, putL 0 19, st231) := by
    show sealS BoxI.new (fid k23 0 0) 0 [] [1, 104, 105] = _
    unfold sealS; rw [if_neg (by rw [h1]; decide), if_neg (by decide)]; rfl
  rw [h3]
  rfl
theorem pw2 : popenF R0 [] true st231 P231 (4 :: putL 0 19) = (0, [104, 105], (P231.step 0).shut false) := by
  have h1 : askB (fid k23 0 0) 0 = 0 := by decide
  have h2 : P231.spent (1 - P231.side) = false := by decide
  have h4 : findL (putL 0 19) st231.seals.length = some 0 := findL_put (by decide) (by decide) (by decide)
  have h3 : openS st231 (fid P231.k ((P231.cnt (1 - P231.side) / P231.S : Nat) : Int) ((1 - P231.side : Nat) : Int)) ((P231.cnt (1 - P231.side) % P231.S : Nat) : Int) [] (putL 0 19) = (0, [1, 104, 105]) := by
    show openS st231 (fid k23 0 0) 0 [] (putL 0 19) = _
    unfold openS
    rw [if_neg (by rw [h1]; decide), if_neg (by rw [putL_len _ _ (by decide)]; decide), if_neg (by rw [putL_len _ _ (by decide)]; decide), h4]
    simp [st231, putL_len]
  unfold popenF
  rw [if_neg (by decide)]
  unfold ptakeF
  rw [if_neg (by rw [h2]; decide), if_neg (by simp)]
  simp only [openX_ideal, List.tail_cons]
  rw [h3]
  rfl
theorem pw3 : popenF R0 [] true st231 ((P231.step 0).shut false) (4 :: putL 0 19) = (6, [], ((P231.step 0).shut false).shut true) := by
  have h1 : askB (fid k23 0 0) 1 = 0 := by decide
  have h2 : ((P231.step 0).shut false).spent (1 - ((P231.step 0).shut false).side) = false := by decide
  have h4 : findL (putL 0 19) st231.seals.length = some 0 := findL_put (by decide) (by decide) (by decide)
  have h3 : openS st231 (fid ((P231.step 0).shut false).k ((((P231.step 0).shut false).cnt (1 - ((P231.step 0).shut false).side) / ((P231.step 0).shut false).S : Nat) : Int) ((1 - ((P231.step 0).shut false).side : Nat) : Int)) ((((P231.step 0).shut false).cnt (1 - ((P231.step 0).shut false).side) % ((P231.step 0).shut false).S : Nat) : Int) [] (putL 0 19) = (6, []) := by
    show openS st231 (fid k23 0 0) 1 [] (putL 0 19) = _
    unfold openS
    rw [if_neg (by rw [h1]; decide), if_neg (by rw [putL_len _ _ (by decide)]; decide), if_neg (by rw [putL_len _ _ (by decide)]; decide), h4]
    simp [st231]
  unfold popenF
  rw [if_neg (by decide)]
  unfold ptakeF
  rw [if_neg (by rw [h2]; decide), if_neg (by simp)]
  simp only [openX_ideal, List.tail_cons]
  rw [h3]
  rfl
end Go.Proofs.YtdgpchacfdlleaaDoor
end

section
/-
  pipe: whether an end is up; what it has counted.
-/
namespace Go.Proofs.YtdgpchacfdlleaaDoor
open Go.RowKit

theorem pup_any (w : World) (g gb : Nat) (p : PipeS) (hb : Blk w g (pipeC gb p) 119) : Calls Tryd.prog 37 #[.pointer (some ⟨g, 0, none⟩)] w fun r w' => r = .returned (.bool (!p.closed)) ∧ w = w' := by
  have OP := Lib.hid (popen_any w g gb p hb)
  obtain ⟨c, hc⟩ : ∃ c, p.closed = c := ⟨_, rfl⟩
  rw [hc] at OP ⊢
  clear hb hc
  cases c with
  | true =>
    go_enter Tryd.func37, Tryd.ntmps37
    go_wp2_with (go_at_call 70; refine OP.out.mono ?_; rintro e w' ⟨rfl, hw⟩; subst hw)
    all_goals (try go_ret)
    exact ⟨rfl, rfl⟩
  | false =>
    go_enter Tryd.func37, Tryd.ntmps37
    go_wp2_with (go_at_call 70; refine OP.out.mono ?_; rintro e w' ⟨rfl, hw⟩; subst hw)
    all_goals (try go_ret)
    exact ⟨rfl, rfl⟩
set_option maxRecDepth 100000 in
theorem counts_any (w : World) (g gb : Nat) (p : PipeS) (hs : p.side < 2) (hb : Blk w g (pipeC gb p) 119) : Calls Tryd.prog 36 #[.pointer (some ⟨g, 0, none⟩)] w fun r w' => r = .returned (.tuple #[.int .i64 (p.cnt p.side : Nat), .int .i64 (p.cnt (1 - p.side) : Nat)]) ∧ Below w.heap.size w w' := by
  obtain ⟨s, hsd⟩ : ∃ s, p.side = s := ⟨_, rfl⟩
  rw [hsd] at hs ⊢
  rcases (show s = 0 ∨ s = 1 by omega) with rfl | rfl
  · have y4 : w.drew.cell? ⟨g, 4, none⟩ = some (nI p.side) := hb.d1.at_ 4 rfl
    rw [hsd] at y4
    have y14 : w.drew.cell? ⟨g, 14, none⟩ = some (nI p.c0) := hb.d1.at_ 14 rfl
    have y17 : w.drew.cell? ⟨g, 17, none⟩ = some (nI p.c1) := hb.d1.at_ 17 rfl
    obtain ⟨c0, h0⟩ : ∃ q, p.c0 = q := ⟨_, rfl⟩
    obtain ⟨c1, h1⟩ : ∃ q, p.c1 = q := ⟨_, rfl⟩
    unfold nI at y4 y14 y17
    rw [h0] at y14
    rw [h1] at y17
    rw [show p.cnt 0 = c0 from h0, show p.cnt (1 - 0) = c1 from h1]
    have HD := Lib.hid (show Below w.heap.size w w.drew from bw_d1 (Below.refl _ _))
    clear hb hsd h0 h1
    go_enter Tryd.func36, Tryd.ntmps36
    go_upto_region 3 with fail
    refine region_plan ⟨[0, 0, 2, 6, 14, 1, 33, 127, 255, 511, 0, 0, 2048, 6144, 14336, 30720, 1024, 66560, 261120, 523264, 1047552, 1023, 4194303], [], [0, 0, 0, 0, 0, 0, 0, 0, 0, 0, 0, 0, 0, 0, 0, 0, 0, 0, 0, 0, 0, 0, 0]⟩
      [⟨[0, 1, 2, 3, 4, 5, 6, 7, 8, 9, 10, 11, 12, 13, 14, 15, 16, 17, 18, 19, 20, 21, 22], [2, 3, 4, 5, 6, 7, 8, 9, 12, 13, 14, 15, 16, 17, 18, 19, 20], none⟩] 27 (by kernel_rfl) (by kernel_rfl) (by kernel_rfl) (by kernel_rfl) rfl ?_
    simp only [SeqGo, opsAt_cons, opsAt_nil, List.getElem?_cons, Option.toList_some, List.singleton_append, ↓reduceIte, Nat.reduceEqDiff, Nat.reduceSub]
    go_wp2_with fail
    iterate 3 (try (first | refine And.intro (a := True) trivial ?_ | refine And.intro (show Sames _ _ _ _ _ from by (simp only [Sames, Same]; go_simp; try (first | rfl | decide))) ?_); try go_wp2_with fail)
    all_goals (try go_ret2)
    exact ⟨rfl, HD.out⟩
  · have y4 : w.drew.cell? ⟨g, 4, none⟩ = some (nI p.side) := hb.d1.at_ 4 rfl
    rw [hsd] at y4
    have y14 : w.drew.cell? ⟨g, 14, none⟩ = some (nI p.c0) := hb.d1.at_ 14 rfl
    have y17 : w.drew.cell? ⟨g, 17, none⟩ = some (nI p.c1) := hb.d1.at_ 17 rfl
    obtain ⟨c0, h0⟩ : ∃ q, p.c0 = q := ⟨_, rfl⟩
    obtain ⟨c1, h1⟩ : ∃ q, p.c1 = q := ⟨_, rfl⟩
    unfold nI at y4 y14 y17
    rw [h0] at y14
    rw [h1] at y17
    rw [show p.cnt 1 = c1 from h1, show p.cnt (1 - 1) = c0 from h0]
    have HD := Lib.hid (show Below w.heap.size w w.drew from bw_d1 (Below.refl _ _))
    clear hb hsd h0 h1
    go_enter Tryd.func36, Tryd.ntmps36
    go_upto_region 3 with fail
    refine region_plan ⟨[0, 0, 2, 6, 14, 1, 33, 127, 255, 511, 0, 0, 2048, 6144, 14336, 30720, 1024, 66560, 261120, 523264, 1047552, 1023, 4194303], [], [0, 0, 0, 0, 0, 0, 0, 0, 0, 0, 0, 0, 0, 0, 0, 0, 0, 0, 0, 0, 0, 0, 0]⟩
      [⟨[0, 1, 2, 3, 4, 5, 6, 7, 8, 9, 10, 11, 12, 13, 14, 15, 16, 17, 18, 19, 20, 21, 22], [2, 3, 4, 5, 6, 7, 8, 9, 12, 13, 14, 15, 16, 17, 18, 19, 20], none⟩] 27 (by kernel_rfl) (by kernel_rfl) (by kernel_rfl) (by kernel_rfl) rfl ?_
    simp only [SeqGo, opsAt_cons, opsAt_nil, List.getElem?_cons, Option.toList_some, List.singleton_append, ↓reduceIte, Nat.reduceEqDiff, Nat.reduceSub]
    go_wp2_with fail
    iterate 3 (try (first | refine And.intro (a := True) trivial ?_ | refine And.intro (show Sames _ _ _ _ _ from by (simp only [Sames, Same]; go_simp; try (first | rfl | decide))) ?_); try go_wp2_with fail)
    all_goals (try go_ret2)
    exact ⟨rfl, HD.out⟩
end Go.Proofs.YtdgpchacfdlleaaDoor
end

section
/-
  pipe: the law's example, walked.
-/
namespace Go.Proofs.YtdgpchacfdlleaaDoor
open Go.RowKit

/-- A string of bytes. -/
theorem str_fact {w : World} {v : Value} {xs : List Int} (h : Rd w v (bs xs)) : ∀ dst, Tryd.prog.underlying dst = some .string → (convert 24 dst v).run Tryd.prog w = .ok (.string (strOfNums xs)) w := by
  intro dst hd
  obtain ⟨A, c, rfl, _, _, _, h3⟩ := h
  rcases h3 with h3 | ⟨b, o, rfl, h3⟩
  · have hx : xs = [] := by
      have := congrArg List.length h3
      rw [bs_len] at this
      exact List.eq_nil_of_length_eq_zero (by simpa using this)
    subst hx
    cases A with
    | none =>
      have := run_convert_bytes_nil (P := Tryd.prog) w 24 5 Tryd.underlying24 Tryd.underlying5 0 c dst hd
      exact this
    | some a =>
      obtain ⟨b, o, s⟩ := a
      have hl : (loadCells ⟨b, o, s⟩ 0).run Tryd.prog w = .ok #[] w := by
        have := run_loadCells_list (P := Tryd.prog) w ⟨b, o, s⟩ [] (fun j v hj => by simp at hj)
        simpa using this
      rw [run_convert_bytes_string w 24 dst 5 _ _ c Tryd.underlying24 Tryd.underlying5 hd]
      exact run_bytesToString (P := Tryd.prog) w ⟨b, o, s⟩ 0 c [] hl
  · refine run_convert_bytes_arg w 24 5 Tryd.underlying24 Tryd.underlying5 b o _ c xs (by rw [bs_len]) (fun i hi => ?_) dst hd
    rw [h3 i hi]
    rw [bs_len] at hi
    simp [bs, List.getD, List.getElem?_eq_getElem hi]

set_option maxRecDepth 100000 in
set_option maxHeartbeats 1000000 in
theorem awake23_any (w : World) : Calls Tryd.prog 31 #[] w fun e w' => e = .returned (.bool true) ∧ Below w.heap.size w w' := by
  have kc := fun (w : World) (C : Array Value) (n c : Nat) => Lib.run_convert_bytes_const (P := Tryd.prog) w 24 5 C n c Tryd.underlying24 Tryd.underlying5
  go_enter Tryd.func31, Tryd.ntmps31
  go_upto_region 2 with (go_at_call 17; refine (newU w w _ [] true (Rd.nil _) isB_nil (by decide) (Below.refl _ _)).mono ?_; rintro e w1 ⟨gb, own, rfl, hu1, -, -⟩)
  have U1 := Lib.hid hu1
  clear hu1
  have tk1 : True := trivial; have tk2 : True := trivial; have tk3 : True := trivial; have tk4 : True := trivial; have tk5 : True := trivial
  go_upto_region 3 with (first
    | (have _t := tk1; clear _t tk1; go_at_call 33; refine (keys23_any _).mono ?_; rintro e w2 ⟨rfl, m2⟩)
    | (have _t := tk2; clear _t tk2; go_at_call 50; refine (wide23_any _).mono ?_; rintro e w3 ⟨rfl, m3⟩)
    | (have _t := tk3; clear _t tk3; go_at_call 32; refine (pnew_any R0 (Kind.ideal _) (U1.out.stay (bw_next m2 m3)) k23 0 (by decide) (k23_ok 0 (by decide)) 0 1000 0 0 0 1000 0).mono ?_; rintro e w4 ⟨g0, rfl, l4, u4, m4⟩)
    | (have _t := tk4; clear _t tk4; go_at_call 33; refine (keys23_any _).mono ?_; rintro e w5 ⟨rfl, m5⟩)
    | (have _t := tk5; clear _t tk5; go_at_call 50; refine (wide23_any _).mono ?_; rintro e w6 ⟨rfl, m6⟩)
    | (go_at_call 32; refine (pnew_any R0 (Kind.ideal _) (u4.box.stay (bw_next m5 m6)) k23 1 (by decide) (k23_ok 1 (by decide)) 0 1000 0 0 0 1000 0).mono ?_; rintro e w7 ⟨g1, rfl, l7, u7, m7⟩))
  have A7 := Lib.hid (u4.stay (bw_next (bw_next m5 m6) m7))
  have B7 := Lib.hid u7
  have hne : g1 ≠ g0 := by have h1 := u4.blk.lt; have h2 := m5.size; have h3 := m6.size; omega
  have NE := Lib.hid hne
  clear m2 m3 l4 u4 m4 m5 m6 l7 u7 m7 hne
  go_upto_region 4 with (go_at_call 34; have h0 := bw_al (Below.refl w7.heap.size w7) (Nat.le_refl _) (.cells #[.int .u8 104, .int .u8 105] 5 (2, 3)); have C := pSeal_any R0 (Kind.ideal _) (A7.out.stay h0) few80 (newP_in k23 0 1000 1000 k23_in (by decide)) _ [104, 105] (rd_frz w7 [104, 105] (2, 3) (by decide)) (by intro z hz; simp at hz; omega); rw [show newP k23 0 1000 1000 = P230 from rfl, pw1] at C; refine C.mono ?_; rintro e w8 ⟨v8, own8, rfl, r1, r2, r3, r4, r5, r6⟩; clear C; obtain ⟨A8, c8, rfl, -⟩ := id r1)
  have B8 := Lib.hid ((B7.out.stay h0).other r3 r4 r5 NE.out)
  have A8u := Lib.hid r3; have R8 := Lib.hid r1; have I8 := Lib.hid r6; have Q8 := Lib.hid (fun b hb => (r2 b hb).1)
  have L8 := Lib.hid (h0.size)
  clear h0 r1 r2 r3 r4 r5 r6
  have L20 : (bs (4 :: putL 0 19)).length = 20 := by rw [bs_len, List.length_cons, putL_len _ _ (by decide)]
  rw [L20] at R8 Q8 ⊢
  clear L20
  go_upto_region 5 with (go_at_call 35; have C := pOpen_any R0 (Kind.ideal _) B8.out (newP_in k23 1 1000 1000 k23_in (by decide)) _ (4 :: putL 0 19) R8.out I8.out; rw [show newP k23 1 1000 1000 = P231 from rfl, pw2] at C; refine C.mono ?_; rintro e w9 ⟨v9, rfl, r1, r2, r3, r4⟩; clear C; obtain ⟨A9, c9, rfl, -⟩ := id r1)
  have hg1 := B8.out.blk.lt
  have R89 := Lib.hid (R8.out.moves r4 (fun b hb h => by have h1 := Q8.out b hb; have h2 := B7.out.blk.lt; have h3 := L8.out; omega))
  have A9u := Lib.hid (A8u.out.beside r3 r4 (Ne.symm NE.out))
  have B9 := Lib.hid r3; have R9 := Lib.hid r1; have Q9 := Lib.hid (fun b hb => show b ≠ g1 from fun h => by have h1 := (r2 b hb).1; omega)
  clear r1 r2 r3 r4 R8 B8 A8u hg1
  go_upto_region 6 with (go_at_call 35; have C := pOpen_any R0 (Kind.ideal _) B9.out ⟨k23_in, by decide, by decide, by decide, by decide, by decide⟩ _ (4 :: putL 0 19) R89.out I8.out; rw [pw3] at C; refine C.mono ?_; rintro e wa ⟨va, rfl, -, -, r3, r4⟩; clear C)
  have Aa := Lib.hid (A9u.out.beside r3 r4 (Ne.symm NE.out))
  have Ba := Lib.hid r3
  have ra := R9.out.moves r4 (fun b hb h => Q9.out b hb h)
  have hcv := str_fact ra _ Tryd.underlying9
  rw [show strOfNums [104, 105] = ⟨#[104, 105]⟩ from rfl] at hcv
  have L2 : (bs [104, 105]).length = 2 := rfl
  rw [L2] at hcv ⊢
  clear r3 r4 ra L2 A9u B9 R89
  have tkA : True := trivial
  go_wp2_with (first
    | (have _t := tkA; clear _t tkA; go_at_call 37; refine (pup_any wa g0 gb _ Aa.out.blk).mono ?_; rintro e wb ⟨rfl, hw⟩; subst hw)
    | (go_at_call 37; refine (pup_any wa g1 gb _ Ba.out.blk).mono ?_; rintro e wb ⟨rfl, hw⟩; subst hw))
  all_goals (try go_ret)
  exact ⟨rfl, Ba.out.box.low⟩
end Go.Proofs.YtdgpchacfdlleaaDoor
end

section
/-
  pipe: what the law of nobody wants besides.
-/
namespace Go.Proofs.YtdgpchacfdlleaaDoor
open Go.RowKit

theorem mk_bytes (w : World) (n : Nat) (hn : n ≤ 1000000) : (Instr.makeSlice 24 (.int .i64 (n : Int)) (.int .i64 (n : Int))).run Tryd.prog w = .ok (.slice (some ⟨w.heap.size, 0, none⟩) n n) (w.alloc (.cells (bs (List.replicate n 0)).toArray 5)) := by
  obtain ⟨i, hi, hz0, hz1, hz2⟩ := info_parts info5
  have := run_make (P := Tryd.prog) w 24 5 i (.int .u8 0) Tryd.underlying24 hi hz0 .i64 .i64 (n : Int) (n : Int) (by omega) (by omega) (by rw [hz2]; omega) (by omega)
  rw [this, hz1]
  have e : madeCells (Value.int .u8 0).cells (Int.toNat (n : Int) * 1) = (bs (List.replicate n 0)).toArray := by
    apply Array.toList_inj.1
    rw [show (Value.int .u8 0).cells = #[Value.int .u8 0] from rfl, toList_madeCells_one]
    simp [bs]
  rw [e]
  rfl
theorem pw_long (R : RealF) (sec : List Int) (ideal : Bool) (st : BoxI) (text : List Int) (h : 60000 < text.length) : psealF R sec ideal st P230 1 text = (5, [], st, P230) := by
  unfold psealF
  rw [if_neg (by decide), if_pos h]
theorem pw_short (text : List Int) (h : text.length ≤ 500) : (psealF R0 [] true BoxI.new P230 1 text).1 = 0 := by
  have h1 : askB (fid k23 0 0) 0 = 0 := by decide
  have h2 : P230.spent P230.side = false := by decide
  unfold psealF
  rw [if_neg (by decide), if_neg (by omega), if_neg (by rw [h2]; decide)]
  simp only [sealX_ideal]
  have h3 : (sealS BoxI.new (fid P230.k ((P230.cnt P230.side / P230.S : Nat) : Int) ((P230.side : Nat) : Int)) ((P230.cnt P230.side % P230.S : Nat) : Int) [] (1 :: text)).1 = 0 := by
    show (sealS BoxI.new (fid k23 0 0) 0 [] (1 :: text)).1 = 0
    unfold sealS; rw [if_neg (by rw [h1]; decide), if_neg (by simp; omega)]
  rw [if_neg (by rw [h3]; simp)]
end Go.Proofs.YtdgpchacfdlleaaDoor
end

section
/-
  The tables that the rows list, as they are laid.
-/
namespace Go.Proofs.YtdgpchacfdlleaaDoor

def ns64 (xs : List Nat) : List Value := xs.map fun (n : Nat) => Value.int .i64 (n : Int)
def ns32 (xs : List Nat) : List Value := xs.map fun (n : Nat) => Value.int .u32 (n : Int)
def rowsC : List Nat := [0, 4, 8, 12, 1, 5, 9, 13, 2, 6, 10, 14, 3, 7, 11, 15, 0, 5, 10, 15, 1, 6, 11, 12, 2, 7, 8, 13, 3, 4, 9, 14]
def startC : List Nat := [1779033703, 3144134277, 1013904242, 2773480762, 1359893119, 2600822924, 528734635, 1541459225]
def cubesC : List Nat := [1116352408, 1899447441, 3049323471, 3921009573, 961987163, 1508970993, 2453635748, 2870763221, 3624381080, 310598401, 607225278, 1426881987, 1925078388, 2162078206, 2614888103, 3248222580, 3835390401, 4022224774, 264347078, 604807628, 770255983, 1249150122, 1555081692, 1996064986, 2554220882, 2821834349, 2952996808, 3210313671, 3336571891, 3584528711, 113926993, 338241895, 666307205, 773529912, 1294757372, 1396182291, 1695183700, 1986661051, 2177026350, 2456956037, 2730485921, 2820302411, 3259730800, 3345764771, 3516065817, 3600352804, 4094571909, 275423344, 430227734, 506948616, 659060556, 883997877, 958139571, 1322822218, 1537002063, 1747873779, 1955562222, 2024104815, 2227730452, 2361852424, 2428436474, 2756734187, 3204031479, 3329325298]
def layT (cs : List Value) : Obj → Obj
  | .cells _ t frozen => .cells cs.toArray t frozen
  | o => o
end Go.Proofs.YtdgpchacfdlleaaDoor
end
