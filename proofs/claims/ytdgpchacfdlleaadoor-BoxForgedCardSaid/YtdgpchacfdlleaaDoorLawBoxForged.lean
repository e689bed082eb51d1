/-
  The statement BoxForged: what an ideal box opens it sealed. The tables that the program lays are as they were laid.
-/
import Derived.Test.YtdgpchacfdlleaaDoorBx5
import Derived.Test.YtdgpchacfdlleaaDoorCards
import Derived.Test.YtdgpchacfdlleaaDoorTie
namespace Go.Proofs.YtdgpchacfdlleaaDoor.lawBoxForged
open Go.ChangeShapes Go.WideShapes Go.ChangeAt Go.RowKit

theorem sealS_small (st : BoxI) (id : Kid) (n : Int) (ad text : List Int) : (sealS st id n ad text).2.2.seals.length ≤ st.seals.length + 1 ∧ (sealS st id n ad text).2.2.marks.length ≤ st.marks.length + 1 ∧ (sealS st id n ad text).2.2.uses.length ≤ st.uses.length + 1 := by
  unfold sealS
  split
  · exact ⟨Nat.le_succ _, Nat.le_succ _, Nat.le_succ _⟩
  split
  · exact ⟨Nat.le_succ _, Nat.le_succ _, Nat.le_succ _⟩
  · simp
theorem sealS_len (st : BoxI) (id : Kid) (n : Int) (ad text : List Int) : (sealS st id n ad text).2.1.length ≤ text.length + 16 := by
  unfold sealS
  split
  · simp
  split
  · simp
  · rw [putL_len _ _ (by omega)]; exact Nat.le_refl _
theorem take_map_succ {α β : Type} (f : α → β) {l : List α} {k : Nat} {x : α} (h : l[k]? = some x) : (l.take (k + 1)).map f = (l.take k).map f ++ [f x] := by
  rw [List.take_add_one, h, List.map_append]; rfl
theorem info_bytesB : (Tryd.prog.info? 24).map (fun i => (i.zero, i.size, i.bytes)) = some (some (.slice none 0 0), 1, 24) := by kernel_rfl
set_option maxRecDepth 100000 in
set_option maxHeartbeats 4000000 in
theorem walk (w : World) (v : Value) (l : List ActBS) (a : ActBS) (hL : ActsAt w v l) (ha : ActB w a) :
    Calls Tryd.prog 4 #[v, .agg a.cells.toArray] w fun e w' => e = .returned (.bool true) ∧ Below w.heap.size w w' := by
  obtain ⟨Z, hZ⟩ : ∃ z, w.heap.size = z := ⟨_, rfl⟩
  obtain ⟨A, c, rfl, hmc, hcm, hcell⟩ := hL.facts
  have HC := Lib.hid hcell
  obtain ⟨b1, hb1⟩ : ∃ b, fewL l 14 = b := ⟨_, rfl⟩
  obtain ⟨b2, hb2⟩ : ∃ b, fewL [a] 1 = b := ⟨_, rfl⟩
  have HB1 := Lib.hid (fun _ : Unit => hb1); have HB2 := Lib.hid (fun _ : Unit => hb2)
  have FW1 := Lib.hid (fun (w' : World) (hb : Below w.heap.size w w') => few08_any w' _ l (hL.stay hb (Nat.le_refl _)) 14 (by decide))
  have FW2 := Lib.hid (fun (w' : World) (hb : Below w.heap.size w w') (g : Nat) (hg : Blk w' g a.cells 26) => few08_any w' _ [a] (actsAt_one hg (ha.stay hb (Nat.le_refl _))) 1 (by decide))
  rw [hb1] at FW1
  rw [hb2] at FW2
  have HL := Lib.hid hL; have HA := Lib.hid ha
  obtain ⟨m, hm⟩ : ∃ m, l.length = m := ⟨_, rfl⟩
  rw [hm] at hmc FW1 ⊢
  have HM := Lib.hid (fun _ : Unit => hm)
  obtain ⟨a0, ha0⟩ : ∃ x, x = a := ⟨_, rfl⟩
  obtain ⟨kd, ⟨ia, ib, ic, id_, ie, if_⟩, n, va, ad, vt, text, at_, by_⟩ := a
  obtain ⟨Aa, ca, hva, -⟩ := id ha.ra
  obtain ⟨At, ct, hvt, -⟩ := id ha.rt
  simp only at hva hvt
  subst hva hvt
  simp only [bs_len] at FW2 ha0 HA ⊢
  obtain ⟨la, hla⟩ : ∃ x, ad.length = x := ⟨_, rfl⟩
  obtain ⟨lt, hlt⟩ : ∃ x, text.length = x := ⟨_, rfl⟩
  rw [hla, hlt] at FW2 ha0 HA ⊢
  simp only [ActBS.cells] at FW2 ⊢
  have HA0 := Lib.hid (fun _ : Unit => ha0)
  have HLA := Lib.hid (fun _ : Unit => hla); have HLT := Lib.hid (fun _ : Unit => hlt)
  clear hL ha hb1 hb2 hm hcell ha0 hla hlt
  go_enter Tryd.func4, Tryd.ntmps4
  go_upto_region 1 with fail
  obtain ⟨W, hW⟩ : ∃ W, w.alloc (.cells #[.int .u8 kd, .int .i64 ia, .int .i64 ib, .int .i64 ic, .int .i64 id_, .int .i64 ie, .int .i64 if_, .int .i64 n, .slice Aa la ca, .slice At lt ct, .int .u8 at_, .int .u8 by_] 26) = W := ⟨_, rfl⟩
  change Code.wp _ _ _ _ (w.alloc (.cells #[.int .u8 kd, .int .i64 ia, .int .i64 ib, .int .i64 ic, .int .i64 id_, .int .i64 ie, .int .i64 if_, .int .i64 n, .slice Aa la ca, .slice At lt ct, .int .u8 at_, .int .u8 by_] 26))
  have k0 : Blk W Z [.int .u8 kd, .int .i64 ia, .int .i64 ib, .int .i64 ic, .int .i64 id_, .int .i64 ie, .int .i64 if_, .int .i64 n, .slice Aa la ca, .slice At lt ct, .int .u8 at_, .int .u8 by_] 26 := by rw [← hW]; exact Blk.mk_ _ hZ.symm rfl
  have bb : Below Z w W := by rw [← hW]; exact bw_al (Below.refl _ _) (by omega) _
  have hz : W.heap.size = Z + 1 := by rw [← hW]; simp [hZ]
  have HZ1 := Lib.hid (fun _ : Unit => hz)
  rw [hW]
  clear hW
  have HK0 := Lib.hid k0; have HBB := Lib.hid bb
  have F1 := Lib.hid (FW1.out W (by rw [hZ]; exact bb))
  clear bb FW1
  have lk0 := load_fact (P := Tryd.prog) k0 26 0 (ys := [.int .u8 kd, .int .i64 ia, .int .i64 ib, .int .i64 ic, .int .i64 id_, .int .i64 ie, .int .i64 if_, .int .i64 n, .slice Aa la ca, .slice At lt ct, .int .u8 at_, .int .u8 by_]) rfl Tryd.underlying26 rfl (n := 12) (by kernel_rfl) rfl
  have LK0 := Lib.hid lk0
  have x0 := k0.at_ 0 rfl
  have x1 := k0.at_ 1 rfl
  have x2 := k0.at_ 2 rfl
  have x3 := k0.at_ 3 rfl
  have x4 := k0.at_ 4 rfl
  have x5 := k0.at_ 5 rfl
  have x6 := k0.at_ 6 rfl
  have x7 := k0.at_ 7 rfl
  have x8 := k0.at_ 8 rfl
  have x9 := k0.at_ 9 rfl
  have x10 := k0.at_ 10 rfl
  have x11 := k0.at_ 11 rfl
  clear lk0 k0
  have tk : True := trivial
  cases b1 with
  | false =>
    go_wp2_with (first
      | (have _t := tk; clear _t tk; go_at_call 15; refine F1.out.mono ?_; rintro e w1 ⟨rfl, rfl⟩)
      | (go_at_call 16; refine (awake08_any _).mono ?_; rintro e w' ⟨rfl, hb'⟩))
    all_goals (try go_ret)
    exact ⟨rfl, by first | exact bw_then HBB.out hb' (by omega) | (rw [hZ]; exact bw_then HBB.out hb' (by omega))⟩
  | true =>
  clear hz
  have bb2 := bw_al (B := Z) HBB.out (by have := HZ1.out (); omega) (.cells #[.int .u8 kd, .int .i64 ia, .int .i64 ib, .int .i64 ic, .int .i64 id_, .int .i64 ie, .int .i64 if_, .int .i64 n, .slice Aa la ca, .slice At lt ct, .int .u8 at_, .int .u8 by_] 26)
  have F2 := Lib.hid (FW2.out _ (by rw [hZ]; exact bb2) W.heap.size (Blk.mk_ _ rfl rfl))
  have HBB2 := Lib.hid bb2
  clear bb2 FW2
  cases b2 with
  | false =>
    go_wp2_with (first
      | (have _t := tk; clear _t tk; go_at_call 15; refine F1.out.mono ?_; rintro e w1 ⟨rfl, rfl⟩)
      | (go_at_call 15; refine F2.out.mono ?_; rintro e w1 ⟨rfl, rfl⟩)
      | (go_at_call 16; refine (awake08_any _).mono ?_; rintro e w' ⟨rfl, hb'⟩))
    all_goals (try go_ret)
    exact ⟨rfl, by first | exact bw_then HBB2.out hb' (by have := HZ1.out (); simp; omega) | (rw [hZ]; exact bw_then HBB2.out hb' (by have := HZ1.out (); simp; omega))⟩
  | true =>
  go_upto_region 3 with (first
    | (have _t := tk; clear _t tk; go_at_call 15; refine F1.out.mono ?_; rintro e w1 ⟨rfl, rfl⟩)
    | (go_at_call 15; refine F2.out.mono ?_; rintro e w1 ⟨rfl, rfl⟩))
  have hz2 : (W.alloc (.cells #[.int .u8 kd, .int .i64 ia, .int .i64 ib, .int .i64 ic, .int .i64 id_, .int .i64 ie, .int .i64 if_, .int .i64 n, .slice Aa la ca, .slice At lt ct, .int .u8 at_, .int .u8 by_] 26)).heap.size = Z + 2 := by simp [HZ1.out ()]
  have hkk := HK0.out.al (.cells #[.int .u8 kd, .int .i64 ia, .int .i64 ib, .int .i64 ic, .int .i64 id_, .int .i64 ie, .int .i64 if_, .int .i64 n, .slice Aa la ca, .slice At lt ct, .int .u8 at_, .int .u8 by_] 26)
  have hbb2 := HBB2.out
  clear F1 F2 HBB2 HBB x0 x1 x2 x3 x4 x5 x6 x7 x8 x9 x10 x11 LK0
  generalize (W.alloc (.cells #[.int .u8 kd, .int .i64 ia, .int .i64 ib, .int .i64 ic, .int .i64 id_, .int .i64 ie, .int .i64 if_, .int .i64 n, .slice Aa la ca, .slice At lt ct, .int .u8 at_, .int .u8 by_] 26)) = W2 at *
  have HW2 := Lib.hid hbb2; have HK2 := Lib.hid hkk; have HZ2 := Lib.hid (fun _ : Unit => hz2)
  clear hbb2 hkk hz2
  go_upto_region 4 with (go_at_call 17; refine (newU W2 W2 (.slice none 0 0) [] true (Rd.nil _) isB_nil (by decide) (Below.refl _ _)).mono ?_; rintro e w3 ⟨g, own, rfl, hu3, hb3, ho3⟩)
  have hT0 : Telling W2 w3 w3.heap.size own g BoxI.new (.slice none 0 0) [] [] 0 := ⟨⟨World.ownsRow_nil _ _ _ _, rfl, fun j u x h _ => by simp at h⟩, rfl, fun b hb => absurd hb (no_hold b), hu3, ⟨Nat.le_refl _, Nat.le_refl _, Nat.le_refl _⟩, fun x hx => (by cases hx), hb3.size⟩
  have HT0 := Lib.hid hT0
  obtain ⟨D, hD⟩ : ∃ D, w3.heap.size = D := ⟨_, rfl⟩
  rw [hD] at HT0
  have HD := Lib.hid (fun _ : Unit => hD)
  clear hu3 hb3 ho3 hT0 hD
  have hl14 : m ≤ 14 ∧ l.all small = true := by
    have := HB1.out ()
    rw [fewL, Bool.and_eq_true, decide_eq_true_eq, HM.out ()] at this
    exact this
  have hasm : la ≤ 300 ∧ lt ≤ 300 := by
    have := HB2.out ()
    rw [fewL, Bool.and_eq_true] at this
    have := this.2
    rw [List.all_cons, Bool.and_eq_true] at this
    have := this.1
    rw [small, Bool.and_eq_true, decide_eq_true_eq, decide_eq_true_eq] at this
    rw [← HLA.out (), ← HLT.out ()]; exact this
  obtain ⟨hm14, hsm⟩ := hl14
  have HSM := Lib.hid hsm; have HAS := Lib.hid hasm
  clear hsm hasm HB1 HB2
  go_upto_region 6 with fail
  go_loopw [6, 7] (fun tv x wr => ∃ (k : Nat) (own : Nat → Prop) (st : BoxI) (vals : List Value) (told : List (List Int)), k ≤ m ∧ x = .int .i64 k ∧ Telling W2 wr D own g st tv vals told k ∧ D ≤ wr.heap.size ∧ Told ((l.take k).map toS) told st) (fun _ x _ => m - (intOf x).toNat)
  case atStart => exact ⟨0, own, BoxI.new, [], [], by omega, rfl, HT0.out, by have := HD.out (); omega, Told.nil⟩
  case round =>
    obtain ⟨k, own2, st, vals, told, hk, rfl, hT, hDw, hTo⟩ := hrel
    obtain ⟨wo, rfl⟩ : ∃ wo : World, wo = wr := ⟨_, rfl⟩
    have HT := Lib.hid hT; have HTO := Lib.hid hTo; have HDW := Lib.hid hDw
    have hlow : Below W2.heap.size W2 wo := hT.box.low
    obtain ⟨At2, ct2, rfl⟩ := row_slice hT.at_.row
    have hvl : vals.length = k := by rw [hT.at_.len, hT.len]
    have HVL := Lib.hid (fun _ : Unit => hvl)
    rw [hvl]
    clear hT hTo hvl HT0
    have hbw : Below Z w wo := by have := HW2.out; exact ⟨hlow.os.trans this.os, hlow.tape.trans this.tape, hlow.output.trans this.output, Nat.le_trans this.size hlow.size, fun j hj => (hlow.block j (by have := HZ2.out (); omega)).trans (this.block j hj)⟩
    have HBW := Lib.hid hbw
    clear hlow hbw
    by_cases hlt : k < m
    · obtain ⟨x, hx⟩ : ∃ x, l[k]? = some x := ⟨l[k]'(by rw [HM.out ()]; exact hlt), List.getElem?_eq_getElem _⟩
      obtain ⟨bb, oo, rfl, hbb, hcs⟩ := HC.out (by rintro rfl; simp at hx)
      rw [hZ] at hbb
      have hX := HL.out.each x (List.mem_of_getElem? hx)
      have HLD := Lib.hid (fun (w' : World) (hb : Below Z w w') => @ActsAt.load _ w' _ _ HL.out bb oo k x (hcs k x hx) Z hb hbb)
      have hxs : small x = true := List.all_eq_true.1 HSM.out x (List.mem_of_getElem? hx)
      rw [small, Bool.and_eq_true, decide_eq_true_eq, decide_eq_true_eq] at hxs
      have e2 : ∀ j, j < 12 → wo.cell? ⟨bb, oo + k * 12 + j, none⟩ = x.cells[j]? := fun j hj => (HBW.out.cell (p := ⟨bb, oo + k * 12 + j, none⟩) hbb).trans (hcs k x hx j hj)
      obtain ⟨x0, hx0⟩ : ∃ y, y = x := ⟨_, rfl⟩
      have HX := Lib.hid hx
      obtain ⟨xkd, ⟨xa, xb, xc, xd, xe, xf⟩, xn, xva, xad, xvt, xtext, xat, xby⟩ := x
      obtain ⟨Ax, cax, hxva, -⟩ := id hX.ra
      obtain ⟨Tx, ctx, hxvt, -⟩ := id hX.rt
      simp only at hxva hxvt hxs
      rw [bs_len] at hxva hxvt
      subst hxva hxvt
      obtain ⟨xla, hxla⟩ : ∃ y, xad.length = y := ⟨_, rfl⟩
      obtain ⟨xlt, hxlt⟩ : ∃ y, xtext.length = y := ⟨_, rfl⟩
      rw [hxla, hxlt] at hxs e2 hX HLD hx0 HX
      have c7 : wo.cell? ⟨bb, oo + k * 12 + 7, none⟩ = some (.int .i64 xn) := e2 7 (by decide)
      have c8 : wo.cell? ⟨bb, oo + k * 12 + 8, none⟩ = some (.slice Ax xla cax) := e2 8 (by decide)
      have c9 : wo.cell? ⟨bb, oo + k * 12 + 9, none⟩ = some (.slice Tx xlt ctx) := e2 9 (by decide)
      have LKI := Lib.hid (fun (w' : World) (hb : Below Z w w') => HLD.out w' hb 23 1 (ys := [.int .i64 xa, .int .i64 xb, .int .i64 xc, .int .i64 xd, .int .i64 xe, .int .i64 xf]) (n := 6) rfl (by simp) Tryd.underlying23 rfl (by kernel_rfl) rfl)
      have HXX := Lib.hid hX; have HXS := Lib.hid hxs; have HLX := Lib.hid (fun _ : Unit => hxla); have HLXT := Lib.hid (fun _ : Unit => hxlt)
      have lki := LKI.out wo.drew (bw_d1 HBW.out)
      have oldB : ∀ b, b < w.heap.size → ¬ own2 b := fun b hb => HT.out.box.old (by have := HZ2.out (); omega)
      have SEAL0 := sealU R0 (Kind.ideal _) (HT.out.box.stay (bw_d1 (Below.refl _ _))) ⟨by have := HT.out.small; omega, by have := HT.out.small; omega, by have := HT.out.small; omega⟩ ⟨xa, xb, xc, xd, xe, xf⟩ xn hX.id hX.n (.slice Ax xla cax) (.slice Tx xlt ctx) xad xtext
        (hX.ra.stay (bw_d1 HBW.out) (by omega)) hX.isA (hX.rt.stay (bw_d1 HBW.out) (by omega)) hX.isT (fun hne b hb => oldB b (hX.ra.low (by intro h; apply hne; simpa [bs] using h) b hb)) (fun hne b hb => oldB b (hX.rt.low (by intro h; apply hne; simpa [bs] using h) b hb))
      rw [sealX_ideal] at SEAL0
      have SEAL := Lib.hid SEAL0
      clear hx hxs e2 hx0 hX hxla hxlt hcs oldB SEAL0 HLD
      go_upto_region 8 with fail
      refine region_plan ⟨[0, 0, 0, 6, 14, 30, 0, 0, 192, 448, 960, 0, 0, 6144, 14336, 30720, 0, 0, 196608, 458752, 983040, 2097151, 4194303, 8388607, 8388607, 16777215, 67108863], [21], [0, 0, 0, 0, 0, 0, 0, 0, 0, 0, 0, 0, 0, 0, 0, 0, 0, 0, 0, 0, 0, 0, 1, 1, 1, 1, 1]⟩
        [⟨[0, 1, 2, 3, 4, 5, 6, 7, 8, 9, 10, 11, 12, 13, 14, 15, 16, 17, 18, 19, 20], [3, 4, 5, 8, 9, 10, 13, 14, 15, 18, 19, 20], some 21⟩, ⟨[22, 23, 24, 25, 26], [23, 24], none⟩] 128 (by kernel_rfl) (by kernel_rfl) (by kernel_rfl) (by kernel_rfl) rfl ?_
      simp only [SeqGo, opsAt_cons, opsAt_nil, List.getElem?_cons_zero, List.getElem?_cons_succ, Option.toList_some, List.singleton_append]
      have tkl : True := trivial
      go_wp2_with (have _t := tkl; refine wp_load_f rfl 23 (.tmp 37) rfl rfl lki ?_; clear _t tkl)
      refine ⟨by (simp only [Sames]; refine ⟨?_, ?_, ?_, ?_, ?_, ?_, ?_, ?_, ?_, ?_, ?_, ?_, trivial⟩ <;> first | exact same_load rfl 23 (.tmp 37) rfl rfl lki rfl | (simp only [Same]; go_simp)), ?_⟩
      clear lki
      go_wp2_with (go_at_call 18; refine SEAL.out.mono ?_; rintro e w1 ⟨v1, own1, rfl, r1, q1, u1, e1, t1, iB, ty⟩; obtain ⟨A1, c1, rfl, _⟩ := id r1; rw [bs_len] at r1 q1 ty ⊢)
      refine ⟨by (simp only [Sames]; refine ⟨?_, ?_, trivial⟩ <;> (simp only [Same]; go_simp)), ?_⟩
      have R1 := Lib.hid r1; have Q1 := Lib.hid q1; have U1 := Lib.hid u1; have E1 := Lib.hid e1; have T1 := Lib.hid t1; have IB := Lib.hid iB; have TY := Lib.hid ty
      obtain ⟨ol, hol⟩ : ∃ y, (sealS st ⟨xa, xb, xc, xd, xe, xf⟩ xn xad xtext).2.1.length = y := ⟨_, rfl⟩
      rw [hol] at R1 Q1 TY ⊢
      have hT2 := HT.out
      rw [HVL.out ()] at hT2
      have row1 : w1.ownsRow D 24 1 (.slice At2 k ct2) k vals := by
        have h1 := row_turns hT2.at_.row (Turns.trans (Turns.of_below (S := own2) (bw_d1 (Below.refl _ _))) t1) hT2.apart
        rw [HVL.out ()] at h1; exact h1
      have z1 := t1.size
      have hzo : wo.drew.heap.size = wo.heap.size := rfl
      have ROW := Lib.hid (ownsRow_keep row1 (bw_al (Below.refl _ _) (Nat.le_refl _) (.cells #[.slice A1 ol c1] 24)) (Nat.le_refl _))
      have BLK := Lib.hid (Blk.mk_ (cs := [.slice A1 ol c1]) w1 (t := 24) rfl rfl)
      have pD : D ≤ (w1.alloc (.cells #[.slice A1 ol c1] 24)).heap.size := by have := HDW.out; simp; omega
      have PD := Lib.hid pD
      have pk : k ≤ 1000000 := by omega
      clear r1 q1 u1 e1 t1 iB ty hol row1 hT2 z1 pD
      go_wp2_with (at_builtin; go_loud (refine wp_app_row 37 24 1 24 (.slice none 0 0) (.tmp 57) (.tmp 59) rfl rfl Tryd.underlying37 info_bytesB rfl (by decide) (by decide) D rfl ROW.out rfl BLK.out rfl (by intro u hu; rw [List.mem_singleton.1 hu]; rfl) pk PD.out ?_; intro tv3 w3 row3 t3 hh3); obtain ⟨A3, c3, rfl⟩ := row_slice row3)
      have hT2 := HT.out
      rw [HVL.out ()] at hT2
      have hsm9 := sealS_small st ⟨xa, xb, xc, xd, xe, xf⟩ xn xad xtext
      have hln9 := sealS_len st ⟨xa, xb, xc, xd, xe, xf⟩ xn xad xtext
      have hsm8 := hT2.small
      have step := Telling.step hT2 HDW.out R1.out Q1.out U1.out E1.out ((Turns.of_below (bw_d1 (Below.refl _ _))).trans T1.out) IB.out TY.out (bw_al (Below.refl _ _) (Nat.le_refl _) (.cells #[.slice A1 ol c1] 24)) (by rw [HVL.out ()]; exact row3) t3 hh3 ⟨by omega, by omega, by omega⟩ (by have := HXS.out; have := HLXT.out (); omega)
      have hto := HTO.out.step ⟨⟨xa, xb, xc, xd, xe, xf⟩, xn, xad, xtext⟩
      have hmt : (l.take (k + 1)).map toS = (l.take k).map toS ++ [⟨⟨xa, xb, xc, xd, xe, xf⟩, xn, xad, xtext⟩] := take_map_succ toS HX.out
      exact ⟨⟨k + 1, own1, _, _, _, by omega, by simp, step, by have := T1.out.size; have := t3.size; have := HDW.out; simp at *; omega, by rw [hmt]; exact hto⟩, by simp [intOf]; omega⟩
    · obtain rfl : k = m := by omega
      have hkz : Blk wo Z [.int .u8 kd, .int .i64 ia, .int .i64 ib, .int .i64 ic, .int .i64 id_, .int .i64 ie, .int .i64 if_, .int .i64 n, .slice Aa la ca, .slice At lt ct, .int .u8 at_, .int .u8 by_] 26 := HK2.out.stay HT.out.box.low
      have HKZ := Lib.hid hkz
      have hT2 := HT.out
      rw [HVL.out ()] at hT2
      have hAo := HA.out.stay HBW.out (by omega)
      have P0 := pick08_any wo D _ _ vals told _ hT2.at_ hAo (by rw [hT2.len]; omega) (fun x hx => by have := hT2.short x hx; omega)
      simp only [ActBS.cells] at P0
      obtain ⟨hid, hhid⟩ : ∃ hid, pickL told ⟨kd, ⟨ia, ib, ic, id_, ie, if_⟩, n, .slice Aa la ca, ad, .slice At lt ct, text, at_, by_⟩ = hid := ⟨_, rfl⟩
      rw [hhid] at P0
      have PICK := Lib.hid P0
      have HAO := Lib.hid hAo
      have x0 := hkz.at_ 0 rfl
      have x1 := hkz.at_ 1 rfl
      have x2 := hkz.at_ 2 rfl
      have x3 := hkz.at_ 3 rfl
      have x4 := hkz.at_ 4 rfl
      have x5 := hkz.at_ 5 rfl
      have x6 := hkz.at_ 6 rfl
      have x7 := hkz.at_ 7 rfl
      have x8 := hkz.at_ 8 rfl
      have x9 := hkz.at_ 9 rfl
      have x10 := hkz.at_ 10 rfl
      have x11 := hkz.at_ 11 rfl
      have hldb : Z < wo.heap.size := by have := HT.out.box.low.size; have := HZ2.out (); omega
      clear hkz hT2 hAo P0 hhid
      go_upto_region 11 with (go_at_call 21; refine PICK.out.mono ?_; rintro e w10 ⟨v10, rfl, r10, i10, hb10⟩; obtain ⟨A10, c10, rfl, _⟩ := id r10; rw [bs_len] at r10 ⊢)
      have hkz := HKZ.out.stay hb10
      clear x0 x1 x2 x3 x4 x5 x6 x7 x8 x9 x10 x11
      have x0 := hkz.at_ 0 rfl
      have x1 := hkz.at_ 1 rfl
      have x2 := hkz.at_ 2 rfl
      have x3 := hkz.at_ 3 rfl
      have x4 := hkz.at_ 4 rfl
      have x5 := hkz.at_ 5 rfl
      have x6 := hkz.at_ 6 rfl
      have x7 := hkz.at_ 7 rfl
      have x8 := hkz.at_ 8 rfl
      have x9 := hkz.at_ 9 rfl
      have x10 := hkz.at_ 10 rfl
      have x11 := hkz.at_ 11 rfl
      have OP0 := openU R0 (Kind.ideal _) (HT.out.box.stay hb10) ⟨ia, ib, ic, id_, ie, if_⟩ n _ _ ad hid (HAO.out.ra.stay hb10 (Nat.le_refl _)) HAO.out.isA r10 i10
      rw [openX_ideal] at OP0
      obtain ⟨code, hcode⟩ : ∃ x, (openS st ⟨ia, ib, ic, id_, ie, if_⟩ n ad hid).1 = x := ⟨_, rfl⟩
      obtain ⟨out, hout⟩ : ∃ x, (openS st ⟨ia, ib, ic, id_, ie, if_⟩ n ad hid).2 = x := ⟨_, rfl⟩
      rw [hcode, hout] at OP0
      have OP := Lib.hid OP0
      have HCO := Lib.hid (fun _ : Unit => hcode); have HOU := Lib.hid (fun _ : Unit => hout); have I10 := Lib.hid i10; have HB10 := Lib.hid hb10
      have R10 := Lib.hid r10
      obtain ⟨hl, hhl⟩ : ∃ y, hid.length = y := ⟨_, rfl⟩
      rw [hhl] at OP R10 ⊢
      have HKZ2 := Lib.hid hkz
      clear hkz OP0 hcode hout i10 r10 hhl
      go_upto_region 12 with (go_at_call 19; refine OP.out.mono ?_; rintro e w11 ⟨v11, rfl, r11, q11, hb11⟩; obtain ⟨A11, c11, rfl, _⟩ := id r11; rw [bs_len] at r11 q11 ⊢)
      have l11 : Below wo.heap.size wo w11 := bw_next HB10.out hb11
      have L1011 := Lib.hid hb11
      have LW : Below Z w w11 := bw_then HBW.out l11 (by omega)
      have HLW := Lib.hid LW
      obtain ⟨ol, hol⟩ : ∃ y, out.length = y := ⟨_, rfl⟩
      rw [hol] at r11 q11 ⊢
      have R11 := Lib.hid r11; have Q11 := Lib.hid q11; have HOL := Lib.hid (fun _ : Unit => hol); have L11 := Lib.hid l11
      have hZ11 : Z ≤ w11.heap.size := by have := l11.size; omega
      clear r11 q11 hol l11 LW x0 x1 x2 x3 x4 x5 x6 x7 x8 x9 x10 x11
      by_cases hc0 : code ≠ 0
      · have ho0 : ol = 0 := by
          have := open_none (st := st) (id := ⟨ia, ib, ic, id_, ie, if_⟩) (n := n) (ad := ad) (hidden := hid) (by rw [HCO.out ()]; exact hc0)
          rw [HOU.out ()] at this
          rw [← HOL.out (), this]; rfl
        subst ho0
        go_wp2_with (go_at_call 16; refine (awake08_any _).mono ?_; rintro e w' ⟨rfl, hb'⟩)
        all_goals (try go_ret)
        exact ⟨rfl, by first | exact bw_then HLW.out hb' hZ11 | (rw [hZ]; exact bw_then HLW.out hb' hZ11)⟩
      · obtain rfl : code = 0 := by omega
        clear hc0
        have IOUT := Lib.hid (show IsB out by rw [← HOU.out ()]; exact openS_isB (fun x hx => by
          obtain ⟨q, hq1⟩ := List.mem_iff_getElem?.1 hx
          obtain ⟨i, p1, _⟩ := HTO.out.at_ q x hq1
          rw [List.getElem?_map] at p1
          obtain ⟨y, p3, p4⟩ := Option.map_eq_some_iff.1 p1
          subst p4
          exact (HL.out.each y (List.mem_of_mem_take (List.mem_of_getElem? p3))).isT) _ _ _ _)
        have EX : ∃ i, i < k ∧ ∃ y, l[i]? = some y ∧ y.id = ⟨ia, ib, ic, id_, ie, if_⟩ ∧ y.n = n ∧ y.ad = ad ∧ y.text = out ∧ told[i]? = some hid := by
          obtain ⟨k0, x, s1, s2, s3, s4, s5, s6⟩ := open_some (st := st) (id := ⟨ia, ib, ic, id_, ie, if_⟩) (n := n) (ad := ad) (hidden := hid) I10.out (HCO.out ())
          rw [HOU.out ()] at s5
          obtain ⟨i, p1, p2⟩ := HTO.out.at_ k0 x s1
          rw [List.getElem?_map] at p1
          obtain ⟨y, p3, p4⟩ := Option.map_eq_some_iff.1 p1
          have hik : i < k := by
            have := (List.getElem?_eq_some_iff.1 p3).1
            rw [List.length_take] at this; omega
          rw [List.getElem?_take_of_lt hik] at p3
          subst p4
          exact ⟨i, hik, y, p3, s2, s3, s4, s5.symm, by rw [p2, ← s6]⟩
        obtain ⟨Mt, hMt⟩ : ∃ Mt : Nat → Prop, (fun i => ∃ y, l[i]? = some y ∧ y.id = ⟨ia, ib, ic, id_, ie, if_⟩ ∧ y.n = n ∧ y.ad = ad ∧ y.text = out ∧ told[i]? = some hid) = Mt := ⟨_, rfl⟩
        have HMT := Lib.hid (fun _ : Unit => hMt)
        have HEX := Lib.hid (show ∃ i, i < k ∧ Mt i by rw [← hMt]; exact EX)
        clear EX hMt PICK OP HCO HOU HTO
        have hT2 := HT.out
        rw [HVL.out ()] at hT2
        have HT2 := Lib.hid hT2
        clear hT2 HT
        go_upto_region 15 with fail
        go_loopw [13] (fun x wr => ∃ j : Nat, j ≤ k ∧ x = .int .i64 j ∧ Below w11.heap.size w11 wr ∧ ∀ i, i < j → ¬ Mt i) (fun x _ => k - (intOf x).toNat)
        case atStart => exact ⟨0, by omega, rfl, Below.refl _ _, fun i hi => by omega⟩
        case round =>
          obtain ⟨j, hj, rfl, hbr, hnm⟩ := hrel
          obtain ⟨wq, rfl⟩ : ∃ wq : World, wq = wr := ⟨_, rfl⟩
          have NM := Lib.hid hnm
          have LQ := Lib.hid (bw_next L11.out hbr)
          have LZQ := Lib.hid (bw_then HLW.out hbr hZ11)
          have zq := hbr.size
          have B11 := Lib.hid hbr
          clear hnm hbr
          by_cases hlj : j < k
          · obtain ⟨y, hy⟩ : ∃ y, l[j]? = some y := ⟨l[j]'(by rw [HM.out ()]; exact hlj), List.getElem?_eq_getElem _⟩
            have hjt : j < told.length := by have := HT2.out.len; omega
            obtain ⟨tx, htx⟩ : ∃ x, told[j]? = some x := ⟨told[j], List.getElem?_eq_getElem _⟩
            obtain ⟨u, hu⟩ : ∃ u, vals[j]? = some u := ⟨vals[j]'(by rw [HT2.out.at_.len]; exact hjt), List.getElem?_eq_getElem _⟩
            have hent := HT2.out.at_.each j u tx hu htx
            obtain ⟨gT, capT, hAT, hcT, -, -⟩ := row_cell HT2.out.at_.row hu
            injection hAT with hAT hk9 hc9
            clear hk9 hc9
            subst hAT
            obtain ⟨Au, cu, hvu, -⟩ := id hent.rd
            rw [bs_len] at hvu
            subst hvu
            obtain ⟨bb, oo, hAA, hbb, hcs⟩ := HC.out (by rintro rfl; simp at hy)
            subst hAA
            rw [hZ] at hbb
            have hY := HL.out.each y (List.mem_of_getElem? hy)
            have hl0 := @ActsAt.load _ wq _ _ HL.out bb oo j y (hcs j y hy) Z LZQ.out hbb 26 0
            have e2 : ∀ i, i < 12 → wq.cell? ⟨bb, oo + j * 12 + i, none⟩ = y.cells[i]? := fun i hi => (LZQ.out.cell (p := ⟨bb, oo + j * 12 + i, none⟩) hbb).trans (hcs j y hy i hi)
            obtain ⟨ykd, ⟨ya, yb, yc, yd, ye, yf⟩, yn, yva, yad, yvt, ytext, yat, yby⟩ := y
            obtain ⟨Ay, cay, hyva, -⟩ := id hY.ra
            obtain ⟨Ty, cty, hyvt, -⟩ := id hY.rt
            simp only at hyva hyvt
            rw [bs_len] at hyva hyvt
            subst hyva hyvt
            have rA := hY.ra
            have rT := hY.rt
            simp only at rA rT
            obtain ⟨yla, hyla⟩ : ∃ z, yad.length = z := ⟨_, rfl⟩
            obtain ⟨ylt, hylt⟩ : ∃ z, ytext.length = z := ⟨_, rfl⟩
            obtain ⟨txl, htxl⟩ : ∃ z, tx.length = z := ⟨_, rfl⟩
            have rU := hent.rd
            rw [htxl] at hcT rU
            rw [hyla] at hl0 rA hy
            rw [hylt] at hl0 rT hy
            have lk12 : (loadVar 26 ⟨bb, oo + j * 12, none⟩).run Tryd.prog wq = .ok (.agg #[.int .u8 ykd, .int .i64 ya, .int .i64 yb, .int .i64 yc, .int .i64 yd, .int .i64 ye, .int .i64 yf, .int .i64 yn, .slice Ay yla cay, .slice Ty ylt cty, .int .u8 yat, .int .u8 yby]) wq :=
              hl0 (ys := [.int .u8 ykd, .int .i64 ya, .int .i64 yb, .int .i64 yc, .int .i64 yd, .int .i64 ye, .int .i64 yf, .int .i64 yn, .slice Ay yla cay, .slice Ty ylt cty, .int .u8 yat, .int .u8 yby]) (n := 12) rfl (by simp) Tryd.underlying26 rfl (by kernel_rfl) rfl
            have iY := hY.isA
            have iT := hY.isT
            have iU := hent.isB
            simp only at iY iT
            have RA := Lib.hid rA; have RT := Lib.hid rT; have RU := Lib.hid rU; have IY := Lib.hid iY; have IT := Lib.hid iT; have IU := Lib.hid iU
            have HTX := Lib.hid htx; have HY := Lib.hid hy
            have cTq : wq.cell? ⟨gT, j, none⟩ = some (.slice Au txl cu) := cell_stay LQ.out hcT
            have CTQ := Lib.hid cTq
            clear hl0 e2 hcs hY hent hu htx hyla hylt htxl rA rT rU iY iT iU hcT cTq hy
            have tk12 : True := trivial
            go_upto_region 18 with (first
              | (have _t := tk12; refine wp_load_f rfl 26 (.tmp 92) rfl rfl lk12 ?_; clear _t tk12)
              | (refine wp_store_blk rfl 26 (.tmp 14) (.tmp 93) rfl rfl rfl (cs' := [.int .u8 ykd, .int .i64 ya, .int .i64 yb, .int .i64 yc, .int .i64 yd, .int .i64 ye, .int .i64 yf, .int .i64 yn, .slice Ay yla cay, .slice Ty ylt cty, .int .u8 yat, .int .u8 yby]) (Blk.mk_ (cs := [.int .u8 0, .int .i64 0, .int .i64 0, .int .i64 0, .int .i64 0, .int .i64 0, .int .i64 0, .int .i64 0, .slice none 0 0, .slice none 0 0, .int .u8 0, .int .u8 0]) _ rfl rfl) (by intro z hz; simp at hz; rcases hz with rfl | rfl | rfl | rfl | rfl | rfl | rfl | rfl | rfl | rfl | rfl | rfl <;> rfl) rfl (n := 12) (by kernel_rfl) rfl ?_; intro w9 b9 on9))
            have h9 : Below wq.heap.size wq w9 := on9.below (bw_al (Below.refl _ _) (Nat.le_refl _) _) (Nat.le_refl _)
            have z9 := h9.size
            have LQ9 := Lib.hid (bw_next LQ.out h9)
            have LZ9 := Lib.hid (show Below Z w w9 from bw_then LZQ.out h9 (by omega))
            have ZB9 := Lib.hid (show Z ≤ w9.heap.size by omega)
            have B9 := Lib.hid (show Below w11.heap.size w11 w9 from bw_next B11.out h9)
            have hz9 := HKZ.out.stay LQ9.out
            have cT9 := cell_stay h9 CTQ.out
            obtain ⟨q9, hq9⟩ : ∃ q, wq.heap.size = q := ⟨_, rfl⟩
            rw [hq9] at b9 ⊢
            have x0 := hz9.at_ 0 rfl
            have x1 := hz9.at_ 1 rfl
            have x2 := hz9.at_ 2 rfl
            have x3 := hz9.at_ 3 rfl
            have x4 := hz9.at_ 4 rfl
            have x5 := hz9.at_ 5 rfl
            have x6 := hz9.at_ 6 rfl
            have x7 := hz9.at_ 7 rfl
            have x8 := hz9.at_ 8 rfl
            have x9 := hz9.at_ 9 rfl
            have x10 := hz9.at_ 10 rfl
            have x11 := hz9.at_ 11 rfl
            have y0 := b9.at_ 0 rfl
            have y1 := b9.at_ 1 rfl
            have y2 := b9.at_ 2 rfl
            have y3 := b9.at_ 3 rfl
            have y4 := b9.at_ 4 rfl
            have y5 := b9.at_ 5 rfl
            have y6 := b9.at_ 6 rfl
            have y7 := b9.at_ 7 rfl
            have y8 := b9.at_ 8 rfl
            have y9 := b9.at_ 9 rfl
            have y10 := b9.at_ 10 rfl
            have y11 := b9.at_ 11 rfl
            have EQ1 := equal_any _ _ yad ad w9 (RA.out.stay LZ9.out (by omega)) (HAO.out.ra.stay LQ9.out (Nat.le_refl _)) IY.out HAO.out.isA
            have EQ2 := equal_any _ _ ytext out w9 (RT.out.stay LZ9.out (by omega)) (R11.out.stay B9.out (Nat.le_refl _)) IT.out IOUT.out
            have EQ3 := equal_any _ _ tx hid w9 (RU.out.stay LQ9.out (Nat.le_refl _)) (R10.out.stay (bw_next L1011.out B9.out) (Nat.le_refl _)) IU.out I10.out
            obtain ⟨f1, hf1⟩ : ∃ f, eqB yad ad = f := ⟨_, rfl⟩
            obtain ⟨f2, hf2⟩ : ∃ f, eqB ytext out = f := ⟨_, rfl⟩
            obtain ⟨f3, hf3⟩ : ∃ f, eqB tx hid = f := ⟨_, rfl⟩
            rw [hf1] at EQ1
            rw [hf2] at EQ2
            rw [hf3] at EQ3
            have HQ1 := Lib.hid EQ1; have HQ2 := Lib.hid EQ2; have HQ3 := Lib.hid EQ3
            have HF := Lib.hid (fun _ : Unit => (show (yad = ad → f1 = true) ∧ (ytext = out → f2 = true) ∧ (tx = hid → f3 = true) from ⟨fun h => by rw [← hf1, h, eqB]; simp, fun h => by rw [← hf2, h, eqB]; simp, fun h => by rw [← hf3, h, eqB]; simp⟩))
            clear EQ1 EQ2 EQ3 hf1 hf2 hf3 lk12 on9 h9 hq9
            by_cases hM : Mt j
            · have hM2 := hM
              rw [← HMT.out ()] at hM2
              obtain ⟨y', g1, g2, g3, g4, g5, g6⟩ := hM2
              rw [HY.out] at g1
              obtain rfl := Option.some.inj g1
              rw [HTX.out] at g6
              have g6 := Option.some.inj g6
              simp only at g2 g3 g4 g5
              have h1 := (HF.out ()).1 g4
              have h2 := (HF.out ()).2.1 g5
              have h3 := (HF.out ()).2.2 g6
              injection g2 with e1 e2 e3 e4 e5 e6
              have EQ1 := HQ1; have EQ2 := HQ2; have EQ3 := HQ3
              clear g1 g4 g5 g6 hM HQ1 HQ2 HQ3 HF HY HMT NM
              subst e1 e2 e3 e4 e5 e6 g3 h1 h2 h3
              have tkE1 : True := trivial
              have tkE2 : True := trivial
              have tkE3 : True := trivial
              go_wp2_with (first
                | (have _t := tkE1; clear _t tkE1; go_at_call 20; refine EQ1.out.mono ?_; rintro e wa ⟨rfl, rfl⟩)
                | (have _t := tkE2; clear _t tkE2; go_at_call 20; refine EQ2.out.mono ?_; rintro e wa ⟨rfl, rfl⟩)
                | (have _t := tkE3; clear _t tkE3; go_at_call 20; refine EQ3.out.mono ?_; rintro e wa ⟨rfl, rfl⟩)
                | (go_at_call 16; refine (awake08_any _).mono ?_; rintro e w' ⟨rfl, hb'⟩))
              all_goals (try go_ret)
              exact ⟨rfl, by first | exact bw_then LZ9.out hb' ZB9.out | (rw [hZ]; exact bw_then LZ9.out hb' ZB9.out)⟩
            · have HNM := Lib.hid hM
              have EQ1 := HQ1; have EQ2 := HQ2; have EQ3 := HQ3
              clear hM HQ1 HQ2 HQ3 HF HY HMT
              have tkE1 : True := trivial
              have tkE2 : True := trivial
              have tkE3 : True := trivial
              go_wp2_with (first
                | (have _t := tkE1; clear _t tkE1; go_at_call 20; refine EQ1.out.mono ?_; rintro e wa ⟨rfl, rfl⟩)
                | (have _t := tkE2; clear _t tkE2; go_at_call 20; refine EQ2.out.mono ?_; rintro e wa ⟨rfl, rfl⟩)
                | (have _t := tkE3; clear _t tkE3; go_at_call 20; refine EQ3.out.mono ?_; rintro e wa ⟨rfl, rfl⟩)
                | (go_at_call 16; refine (awake08_any _).mono ?_; rintro e w' ⟨rfl, hb'⟩))
              all_goals (try go_ret)
              all_goals first
                | exact ⟨⟨j + 1, by omega, by simp, B9.out, fun i hi => by rcases Nat.lt_or_eq_of_le (Nat.lt_succ_iff.1 hi) with h | h; exact NM.out i h; rw [h]; exact HNM.out⟩, by simp [intOf]; omega⟩
                | exact ⟨rfl, by first | exact bw_then LZ9.out hb' ZB9.out | (rw [hZ]; exact bw_then LZ9.out hb' ZB9.out)⟩
          · obtain rfl : j = k := by omega
            exact absurd HEX.out (fun ⟨i, hi, hm⟩ => NM.out i hi hm)

set_option maxRecDepth 100000 in
theorem contract (H : Type) (enc : TypeId × Value → H) (W : World) (base : Nat) (args : Array Value) (ds gs : List (DataW H)) (before : List MemPlace)
    (hval : ∀ (j : Nat) t v, Tryd.f4.params[j]? = some t → args[j]? = some v → Value.okWide Tryd.prog W .any base t v)
    (hW : DataW.Whole enc Tryd.prog Tryd.f4.params.toList Rows.boxForgedSpec.vars false W args.toList ds gs before) (_hL : laidMetH Tryd.prog Rows.boxForgedRow.laid W) :
    Calls Tryd.prog 4 args W fun e W' => ∃ v, e = .returned v ∧ Rows.boxForgedSpec.post enc Tryd.prog Tryd.f4 false true false false W args v W' := by
  have hW' := hW
  obtain ⟨p, q, hA0, hV, rfl, hfz, hnd⟩ := hW
  have hA : DataW.TrodAll enc Tryd.prog W 0 (fun _ => true) true Tryd.f4.params.toList args.toList ds p := hA0
  rw [Tryd.params4] at hA hval
  obtain ⟨v0, vs0, d0, ds0, p0, q0, hargs0, rfl, rfl, h0, r0⟩ := trodAll_cons hA
  obtain ⟨v1, vs1, d1, ds1, p1, q1, hargs1, e1, rfl, h1, r1⟩ := trodAll_cons r0
  subst e1
  obtain ⟨e9, e8, e7⟩ := trodAll_nil r1
  subst e9 e8 e7
  obtain rfl : args = #[v0, v1] := by cases args; simp_all
  obtain ⟨rfl, rfl⟩ := trodVars_none hV
  have hv0 := hval 0 _ v0 rfl rfl
  have hv1 := hval 1 _ v1 rfl rfl
  clear hA0
  obtain ⟨fuel0, hf0⟩ := h0
  obtain ⟨fuel1, hf1⟩ := h1
  rw [one_of_ok Tryd.underlying28 rfl hv0] at hf0
  obtain ⟨u0, n0, f0, hcs0, he0, hf20⟩ := actsb_of_trod Tryd.underlying28 hf0
  obtain rfl : v0 = u0 := by simpa using hcs0
  obtain ⟨a1, ha1, hcs1⟩ := actb_of_trod hf1
  obtain ⟨x1, rfl⟩ : ∃ cs, v1 = .agg cs := by simp only [Value.okWide] at hv1; obtain ⟨cs, h, _⟩ := hv1; exact ⟨cs, h⟩
  obtain rfl : x1 = a1.cells.toArray := by apply Array.toList_inj.1; simpa [Value.cells] using hcs1
  refine (Exists.elim (actsAt_of he0 hf20) fun l0 hl0 => walk W v0 l0 a1 hl0 ha1).mono fun e W' ⟨he, hb⟩ => ⟨_, he, ?_⟩
  exact law_post Tryd.laidOut (by kernel_rfl) (by kernel_rfl) Tryd.underlying4 rfl rfl rfl rfl hW' hb

/-- A WORLD FOR THE WITNESS: the settled one, the table (block 0) holding what its initialiser lays. -/
noncomputable def laidWorld (os : Os) : World :=
  { World.holding Tryd.prog os ⟨#[], #[], []⟩ with heap := (((World.holding Tryd.prog os ⟨#[], #[], []⟩).heap.modify 0 (layT (ns64 rowsC))).modify 1 (layT (ns32 startC))).modify 2 (layT (ns32 cubesC)) }
def wit : Array Value := #[.slice none 0 0, .agg #[.int .u8 0, .int .i64 0, .int .i64 0, .int .i64 0, .int .i64 0, .int .i64 0, .int .i64 0, .int .i64 0, .slice none 0 0, .slice none 0 0, .int .u8 0, .int .u8 0]]
theorem laid_met (os : Os) : laidMet Tryd.prog Rows.boxForgedRow.laid ((laidWorld os).forCall (fun _ _ => 0) ⟨#[], wit, []⟩).memory :=
  laidMet_of_run' 8 (by kernel_rfl) (by kernel_rfl)
theorem reads (os : Os) {H : Type} (enc : TypeId × Value → H) : ∃ ds places, DataW.whole enc Tryd.prog ((laidWorld os).forCall (fun _ _ => 0) ⟨#[], wit, []⟩).memory Tryd.f4.params.toList Rows.boxForgedSpec.vars false wit.toList 8 = some (ds, [], places) :=
  ⟨[.nil, .agg [.lit (.int .u8 0), .agg [.lit (.int .i64 0), .lit (.int .i64 0), .lit (.int .i64 0), .lit (.int .i64 0), .lit (.int .i64 0), .lit (.int .i64 0)], .lit (.int .i64 0), .nil, .nil, .lit (.int .u8 0), .lit (.int .u8 0)]], [], by kernel_rfl⟩

set_option maxRecDepth 100000 in
theorem lifted (os : Os) (started : os.Started) (H : Type) (enc : TypeId × Value → H) (F : Stop.Interp) :
    ReturnsInHanded {} Tryd.checked os 4 .any ((OpenSpec.ofChange Rows.boxForgedSpec).preRow enc Tryd.prog Tryd.f4 Rows.boxForgedRow.domain false Rows.boxForgedRow.laid) (((OpenSpec.ofChange Rows.boxForgedSpec).at F).post enc Tryd.prog Tryd.f4 false true false false) := by
  obtain ⟨ds, places, hx⟩ := reads os enc
  refine returnsInHanded_of_row (C := Tryd.checked) (s := OpenSpec.ofChange Rows.boxForgedSpec) Tryd.own started (by kernel_rfl) Tryd.func4
    (witness_row_at (enc := enc) (C := Tryd.checked) false (laidWorld os) wit rfl (by kernel_rfl) (by kernel_rfl) (by kernel_rfl)
      (OpenSpec.preRow_of_cond 8 hx (by kernel_rfl) (fun k hk => by cases hk) (by kernel_rfl) (laid_met os))) ?_
  intro W base args ds gs before hval hW _ _ _ hL _ _
  exact contract H enc W base args ds gs before hval hW hL

theorem said : Rows.BoxForgedSaid :=
  OpenClaim.holds_of_cond 4 Tryd.f4 rfl rfl rfl rfl rfl rfl rfl ⟨rfl, rfl, rfl, rfl, rfl⟩ rfl rfl rfl rfl rfl (by kernel_rfl) Tryd.func4 (by kernel_rfl)
    (of_decide_eq_true (by kernel_rfl)) (by unfold Func.isWrapper; first | (rw [if_pos (by decide +kernel)]; kernel_rfl) | (rw [if_neg (by decide +kernel)]; exact ⟨rfl, rfl⟩))
    (fun os started H enc _ F => by rw [OpenClaim.pre_eq_preRow]; exact lifted os started H enc F)

/-- No parameter wants a stand-in; the program's own looks are off. -/
theorem plain (f : FuncId) (fn : Func) (hf : Tryd.pinned.checked.prog.funcNamed "intaglio/intagliolaw08.BoxForged" = some f) (hfn : Tryd.pinned.checked.prog.funcs[f]? = some fn) :
    false = Tryd.pinned.checked.prog.looks [] ∧ ∀ (j : Nat) t, fn.params[j]? = some t → Tryd.pinned.checked.prog.wantsStandIn t = false := by
  obtain rfl : f = 4 := Option.some.inj ((show Tryd.prog.funcNamed "intaglio/intagliolaw08.BoxForged" = some 4 by kernel_rfl).symm.trans hf) |>.symm
  obtain rfl : fn = Tryd.f4 := (Option.some.inj (Tryd.func4.symm.trans hfn)).symm
  refine ⟨by kernel_rfl, fun j t ht => ?_⟩
  rw [Tryd.params4] at ht
  have hall : (#[28, 26].toList.all fun u => !Tryd.prog.wantsStandIn u) = true := by kernel_rfl
  exact (show Tryd.prog.wantsStandIn t = false by simpa using List.all_eq_true.1 hall t (by simpa using Array.mem_of_getElem? ht))

/-- THE CARD. -/
theorem proved : Rows.BoxForgedCardSaid :=
  Claim7.holds_tied_plain_at .later [] _ _ _ _ said (fun _ h => by cases h) (by kernel_rfl) (fun _ h => by cases h) boxForged_row_tie rfl ⟨rfl, rfl⟩ (by kernel_rfl) rfl plain (by kernel_rfl)
end Go.Proofs.YtdgpchacfdlleaaDoor.lawBoxForged
