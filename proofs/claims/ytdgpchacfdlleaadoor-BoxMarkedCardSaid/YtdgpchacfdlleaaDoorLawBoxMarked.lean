/-
  The statement BoxMarked: what an ideal box finds right it told, and no other. The tables that the program lays are as they were laid.
-/
import Derived.Test.YtdgpchacfdlleaaDoorBx5
import Derived.Test.YtdgpchacfdlleaaDoorCards
import Derived.Test.YtdgpchacfdlleaaDoorTie
namespace Go.Proofs.YtdgpchacfdlleaaDoor.lawBoxMarked
open Go.ChangeShapes Go.WideShapes Go.ChangeAt Go.RowKit

theorem markS_small (st : BoxI) (id : Kid) (text : List Int) : (markS st id text).2.2.seals.length ≤ st.seals.length + 1 ∧ (markS st id text).2.2.marks.length ≤ st.marks.length + 1 ∧ (markS st id text).2.2.uses.length ≤ st.uses.length + 1 := by
  unfold markS
  split
  · exact ⟨Nat.le_succ _, Nat.le_succ _, Nat.le_succ _⟩
  · simp
theorem markS_len (st : BoxI) (id : Kid) (text : List Int) : (markS st id text).2.1.length ≤ 32 := by
  unfold markS
  split
  · simp
  · rw [putL_len _ _ (by omega)]; exact Nat.le_refl _
theorem take_map_succ {α β : Type} (f : α → β) {l : List α} {k : Nat} {x : α} (h : l[k]? = some x) : (l.take (k + 1)).map f = (l.take k).map f ++ [f x] := by
  rw [List.take_add_one, h, List.map_append]; rfl
theorem info_bytesB : (Tryd.prog.info? 24).map (fun i => (i.zero, i.size, i.bytes)) = some (some (.slice none 0 0), 1, 24) := by kernel_rfl
set_option maxRecDepth 100000 in
set_option maxHeartbeats 16000000 in
theorem walk (w : World) (v : Value) (l : List ActBS) (a : ActBS) (hL : ActsAt w v l) (ha : ActB w a) :
    Calls Tryd.prog 5 #[v, .agg a.cells.toArray] w fun e w' => e = .returned (.bool true) ∧ Below w.heap.size w w' := by
  obtain ⟨Z, hZ⟩ : ∃ z, w.heap.size = z := ⟨_, rfl⟩
  obtain ⟨A, c, rfl, hmc, hcm, hcell⟩ := hL.facts
  have HC := Lib.hid hcell
  obtain ⟨b1, hb1⟩ : ∃ b, fewL l 14 = b := ⟨_, rfl⟩
  obtain ⟨b2, hb2⟩ : ∃ b, fewL [a] 1 = b := ⟨_, rfl⟩
  have HB1 := Lib.hid (fun _ : Unit => hb1); have HB2 := Lib.hid (fun _ : Unit => hb2)
  have FW1 := Lib.hid (fun (w' : World) (hb : Below w.heap.size w w') => few08_any w' _ l (hL.stay hb (Nat.le_refl _)) 14 (by decide))
  have FW2 := Lib.hid (fun (w' : World) (hb : Below w.heap.size w w') (g : Nat) (hg : Blk w' g a.cells 26) => few08_any w' _ [a] (actsAt_one hg (ha.stay hb (Nat.le_refl _))) 1 (by decide))
  rw [hb1] at FW1
  rw [hb2] at FW2
  have HL := Lib.hid hL; have HA := Lib.hid ha
  obtain ⟨m, hm⟩ : ∃ m, l.length = m := ⟨_, rfl⟩
  rw [hm] at hmc FW1 ⊢
  have HM := Lib.hid (fun _ : Unit => hm)
  obtain ⟨a0, ha0⟩ : ∃ x, x = a := ⟨_, rfl⟩
  obtain ⟨kd, ⟨ia, ib, ic, id_, ie, if_⟩, n, va, ad, vt, text, at_, by_⟩ := a
  obtain ⟨Aa, ca, hva, -⟩ := id ha.ra
  obtain ⟨At, ct, hvt, -⟩ := id ha.rt
  simp only at hva hvt
  subst hva hvt
  simp only [bs_len] at FW2 ha0 HA ⊢
  obtain ⟨la, hla⟩ : ∃ x, ad.length = x := ⟨_, rfl⟩
  obtain ⟨lt, hlt⟩ : ∃ x, text.length = x := ⟨_, rfl⟩
  rw [hla, hlt] at FW2 ha0 HA ⊢
  simp only [ActBS.cells] at FW2 ⊢
  have HA0 := Lib.hid (fun _ : Unit => ha0)
  have HLA := Lib.hid (fun _ : Unit => hla); have HLT := Lib.hid (fun _ : Unit => hlt)
  clear hL ha hb1 hb2 hm hcell ha0 hla hlt
  go_enter Tryd.func5, Tryd.ntmps5
  go_upto_region 1 with fail
  obtain ⟨W, hW⟩ : ∃ W, w.alloc (.cells #[.int .u8 kd, .int .i64 ia, .int .i64 ib, .int .i64 ic, .int .i64 id_, .int .i64 ie, .int .i64 if_, .int .i64 n, .slice Aa la ca, .slice At lt ct, .int .u8 at_, .int .u8 by_] 26) = W := ⟨_, rfl⟩
  change Code.wp _ _ _ _ (w.alloc (.cells #[.int .u8 kd, .int .i64 ia, .int .i64 ib, .int .i64 ic, .int .i64 id_, .int .i64 ie, .int .i64 if_, .int .i64 n, .slice Aa la ca, .slice At lt ct, .int .u8 at_, .int .u8 by_] 26))
  have k0 : Blk W Z [.int .u8 kd, .int .i64 ia, .int .i64 ib, .int .i64 ic, .int .i64 id_, .int .i64 ie, .int .i64 if_, .int .i64 n, .slice Aa la ca, .slice At lt ct, .int .u8 at_, .int .u8 by_] 26 := by rw [← hW]; exact Blk.mk_ _ hZ.symm rfl
  have bb : Below Z w W := by rw [← hW]; exact bw_al (Below.refl _ _) (by omega) _
  have hz : W.heap.size = Z + 1 := by rw [← hW]; simp [hZ]
  have HZ1 := Lib.hid (fun _ : Unit => hz)
  rw [hW]
  clear hW
  have HK0 := Lib.hid k0; have HBB := Lib.hid bb
  have F1 := Lib.hid (FW1.out W (by rw [hZ]; exact bb))
  clear bb FW1
  have lk0 := load_fact (P := Tryd.prog) k0 26 0 (ys := [.int .u8 kd, .int .i64 ia, .int .i64 ib, .int .i64 ic, .int .i64 id_, .int .i64 ie, .int .i64 if_, .int .i64 n, .slice Aa la ca, .slice At lt ct, .int .u8 at_, .int .u8 by_]) rfl Tryd.underlying26 rfl (n := 12) (by kernel_rfl) rfl
  have LK0 := Lib.hid lk0
  have x0 := k0.at_ 0 rfl
  have x1 := k0.at_ 1 rfl
  have x2 := k0.at_ 2 rfl
  have x3 := k0.at_ 3 rfl
  have x4 := k0.at_ 4 rfl
  have x5 := k0.at_ 5 rfl
  have x6 := k0.at_ 6 rfl
  have x7 := k0.at_ 7 rfl
  have x8 := k0.at_ 8 rfl
  have x9 := k0.at_ 9 rfl
  have x10 := k0.at_ 10 rfl
  have x11 := k0.at_ 11 rfl
  clear lk0 k0
  have tk : True := trivial
  cases b1 with
  | false =>
    go_wp2_with (first
      | (have _t := tk; clear _t tk; go_at_call 15; refine F1.out.mono ?_; rintro e w1 ⟨rfl, rfl⟩)
      | (go_at_call 16; refine (awake08_any _).mono ?_; rintro e w' ⟨rfl, hb'⟩))
    all_goals (try go_ret)
    exact ⟨rfl, by first | exact bw_then HBB.out hb' (by omega) | (rw [hZ]; exact bw_then HBB.out hb' (by omega))⟩
  | true =>
  clear hz
  have bb2 := bw_al (B := Z) HBB.out (by have := HZ1.out (); omega) (.cells #[.int .u8 kd, .int .i64 ia, .int .i64 ib, .int .i64 ic, .int .i64 id_, .int .i64 ie, .int .i64 if_, .int .i64 n, .slice Aa la ca, .slice At lt ct, .int .u8 at_, .int .u8 by_] 26)
  have F2 := Lib.hid (FW2.out _ (by rw [hZ]; exact bb2) W.heap.size (Blk.mk_ _ rfl rfl))
  have HBB2 := Lib.hid bb2
  clear bb2 FW2
  cases b2 with
  | false =>
    go_wp2_with (first
      | (have _t := tk; clear _t tk; go_at_call 15; refine F1.out.mono ?_; rintro e w1 ⟨rfl, rfl⟩)
      | (go_at_call 15; refine F2.out.mono ?_; rintro e w1 ⟨rfl, rfl⟩)
      | (go_at_call 16; refine (awake08_any _).mono ?_; rintro e w' ⟨rfl, hb'⟩))
    all_goals (try go_ret)
    exact ⟨rfl, by first | exact bw_then HBB2.out hb' (by have := HZ1.out (); simp; omega) | (rw [hZ]; exact bw_then HBB2.out hb' (by have := HZ1.out (); simp; omega))⟩
  | true =>
  go_upto_region 3 with (first
    | (have _t := tk; clear _t tk; go_at_call 15; refine F1.out.mono ?_; rintro e w1 ⟨rfl, rfl⟩)
    | (go_at_call 15; refine F2.out.mono ?_; rintro e w1 ⟨rfl, rfl⟩))
  have hz2 : (W.alloc (.cells #[.int .u8 kd, .int .i64 ia, .int .i64 ib, .int .i64 ic, .int .i64 id_, .int .i64 ie, .int .i64 if_, .int .i64 n, .slice Aa la ca, .slice At lt ct, .int .u8 at_, .int .u8 by_] 26)).heap.size = Z + 2 := by simp [HZ1.out ()]
  have hkk := HK0.out.al (.cells #[.int .u8 kd, .int .i64 ia, .int .i64 ib, .int .i64 ic, .int .i64 id_, .int .i64 ie, .int .i64 if_, .int .i64 n, .slice Aa la ca, .slice At lt ct, .int .u8 at_, .int .u8 by_] 26)
  have hbb2 := HBB2.out
  clear F1 F2 HBB2 HBB x0 x1 x2 x3 x4 x5 x6 x7 x8 x9 x10 x11 LK0
  generalize (W.alloc (.cells #[.int .u8 kd, .int .i64 ia, .int .i64 ib, .int .i64 ic, .int .i64 id_, .int .i64 ie, .int .i64 if_, .int .i64 n, .slice Aa la ca, .slice At lt ct, .int .u8 at_, .int .u8 by_] 26)) = W2 at *
  have HW2 := Lib.hid hbb2; have HK2 := Lib.hid hkk; have HZ2 := Lib.hid (fun _ : Unit => hz2)
  clear hbb2 hkk hz2
  go_upto_region 4 with (go_at_call 17; refine (newU W2 W2 (.slice none 0 0) [] true (Rd.nil _) isB_nil (by decide) (Below.refl _ _)).mono ?_; rintro e w3 ⟨g, own, rfl, hu3, hb3, ho3⟩)
  have hT0 : Telling W2 w3 w3.heap.size own g BoxI.new (.slice none 0 0) [] [] 0 := ⟨⟨World.ownsRow_nil _ _ _ _, rfl, fun j u x h _ => by simp at h⟩, rfl, fun b hb => absurd hb (no_hold b), hu3, ⟨Nat.le_refl _, Nat.le_refl _, Nat.le_refl _⟩, fun x hx => (by cases hx), hb3.size⟩
  have HT0 := Lib.hid hT0
  obtain ⟨D, hD⟩ : ∃ D, w3.heap.size = D := ⟨_, rfl⟩
  rw [hD] at HT0
  have HD := Lib.hid (fun _ : Unit => hD)
  clear hu3 hb3 ho3 hT0 hD
  have hl14 : m ≤ 14 ∧ l.all small = true := by
    have := HB1.out ()
    rw [fewL, Bool.and_eq_true, decide_eq_true_eq, HM.out ()] at this
    exact this
  have hasm : la ≤ 300 ∧ lt ≤ 300 := by
    have := HB2.out ()
    rw [fewL, Bool.and_eq_true] at this
    have := this.2
    rw [List.all_cons, Bool.and_eq_true] at this
    have := this.1
    rw [small, Bool.and_eq_true, decide_eq_true_eq, decide_eq_true_eq] at this
    rw [← HLA.out (), ← HLT.out ()]; exact this
  obtain ⟨hm14, hsm⟩ := hl14
  have HSM := Lib.hid hsm; have HAS := Lib.hid hasm
  clear hsm hasm HB1 HB2
  go_upto_region 6 with fail
  go_loopw [6, 7] (fun tv x wr => ∃ (k : Nat) (own : Nat → Prop) (st : BoxI) (vals : List Value) (told : List (List Int)), k ≤ m ∧ x = .int .i64 k ∧ Telling W2 wr D own g st tv vals told k ∧ D ≤ wr.heap.size ∧ ToldM ((l.take k).map toM) told st) (fun _ x _ => m - (intOf x).toNat)
  case atStart => exact ⟨0, own, BoxI.new, [], [], by omega, rfl, HT0.out, by have := HD.out (); omega, ToldM.nil⟩
  case round =>
    obtain ⟨k, own2, st, vals, told, hk, rfl, hT, hDw, hTo⟩ := hrel
    obtain ⟨wo, rfl⟩ : ∃ wo : World, wo = wr := ⟨_, rfl⟩
    have HT := Lib.hid hT; have HTO := Lib.hid hTo; have HDW := Lib.hid hDw
    have hlow : Below W2.heap.size W2 wo := hT.box.low
    obtain ⟨At2, ct2, rfl⟩ := row_slice hT.at_.row
    have hvl : vals.length = k := by rw [hT.at_.len, hT.len]
    have HVL := Lib.hid (fun _ : Unit => hvl)
    rw [hvl]
    clear hT hTo hvl HT0
    have hbw : Below Z w wo := by have := HW2.out; exact ⟨hlow.os.trans this.os, hlow.tape.trans this.tape, hlow.output.trans this.output, Nat.le_trans this.size hlow.size, fun j hj => (hlow.block j (by have := HZ2.out (); omega)).trans (this.block j hj)⟩
    have HBW := Lib.hid hbw
    clear hlow hbw
    by_cases hlt : k < m
    · obtain ⟨x, hx⟩ : ∃ x, l[k]? = some x := ⟨l[k]'(by rw [HM.out ()]; exact hlt), List.getElem?_eq_getElem _⟩
      obtain ⟨bb, oo, rfl, hbb, hcs⟩ := HC.out (by rintro rfl; simp at hx)
      rw [hZ] at hbb
      have hX := HL.out.each x (List.mem_of_getElem? hx)
      have HLD := Lib.hid (fun (w' : World) (hb : Below Z w w') => @ActsAt.load _ w' _ _ HL.out bb oo k x (hcs k x hx) Z hb hbb)
      have hxs : small x = true := List.all_eq_true.1 HSM.out x (List.mem_of_getElem? hx)
      rw [small, Bool.and_eq_true, decide_eq_true_eq, decide_eq_true_eq] at hxs
      have e2 : ∀ j, j < 12 → wo.cell? ⟨bb, oo + k * 12 + j, none⟩ = x.cells[j]? := fun j hj => (HBW.out.cell (p := ⟨bb, oo + k * 12 + j, none⟩) hbb).trans (hcs k x hx j hj)
      obtain ⟨x0, hx0⟩ : ∃ y, y = x := ⟨_, rfl⟩
      have HX := Lib.hid hx
      obtain ⟨xkd, ⟨xa, xb, xc, xd, xe, xf⟩, xn, xva, xad, xvt, xtext, xat, xby⟩ := x
      obtain ⟨Ax, cax, hxva, -⟩ := id hX.ra
      obtain ⟨Tx, ctx, hxvt, -⟩ := id hX.rt
      simp only at hxva hxvt hxs
      rw [bs_len] at hxva hxvt
      subst hxva hxvt
      obtain ⟨xla, hxla⟩ : ∃ y, xad.length = y := ⟨_, rfl⟩
      obtain ⟨xlt, hxlt⟩ : ∃ y, xtext.length = y := ⟨_, rfl⟩
      rw [hxla, hxlt] at hxs e2 hX HLD hx0 HX
      have c7 : wo.cell? ⟨bb, oo + k * 12 + 7, none⟩ = some (.int .i64 xn) := e2 7 (by decide)
      have c8 : wo.cell? ⟨bb, oo + k * 12 + 8, none⟩ = some (.slice Ax xla cax) := e2 8 (by decide)
      have c9 : wo.cell? ⟨bb, oo + k * 12 + 9, none⟩ = some (.slice Tx xlt ctx) := e2 9 (by decide)
      have LKI := Lib.hid (fun (w' : World) (hb : Below Z w w') => HLD.out w' hb 23 1 (ys := [.int .i64 xa, .int .i64 xb, .int .i64 xc, .int .i64 xd, .int .i64 xe, .int .i64 xf]) (n := 6) rfl (by simp) Tryd.underlying23 rfl (by kernel_rfl) rfl)
      have HXX := Lib.hid hX; have HXS := Lib.hid hxs; have HLX := Lib.hid (fun _ : Unit => hxla); have HLXT := Lib.hid (fun _ : Unit => hxlt)
      have lki := LKI.out wo.drew (bw_d1 HBW.out)
      have oldB : ∀ b, b < w.heap.size → ¬ own2 b := fun b hb => HT.out.box.old (by have := HZ2.out (); omega)
      have SEAL0 := markU R0 (Kind.ideal _) (HT.out.box.stay (bw_d1 (Below.refl _ _))) ⟨by have := HT.out.small; omega, by have := HT.out.small; omega, by have := HT.out.small; omega⟩ ⟨xa, xb, xc, xd, xe, xf⟩ (.slice Tx xlt ctx) xtext (hX.rt.stay (bw_d1 HBW.out) (by omega)) hX.isT (by have := hxs.2; omega)
      rw [markX_ideal] at SEAL0
      have SEAL := Lib.hid SEAL0
      clear hx hxs e2 hx0 hX hxla hxlt hcs oldB SEAL0 HLD c7 c8
      go_upto_region 8 with fail
      refine region_plan ⟨[0, 0, 0, 6, 14, 30, 0, 0, 192, 448, 960, 2047, 4095, 8191, 8191, 16383, 65535], [11], [0, 0, 0, 0, 0, 0, 0, 0, 0, 0, 0, 0, 1, 1, 1, 1, 1]⟩
        [⟨[0, 1, 2, 3, 4, 5, 6, 7, 8, 9, 10], [3, 4, 5, 8, 9, 10], some 11⟩, ⟨[12, 13, 14, 15, 16], [13, 14], none⟩] 107 (by kernel_rfl) (by kernel_rfl) (by kernel_rfl) (by kernel_rfl) rfl ?_
      simp only [SeqGo, opsAt_cons, opsAt_nil, List.getElem?_cons, Option.toList_some, List.singleton_append, ↓reduceIte, Nat.reduceEqDiff, Nat.reduceSub]
      have tkl : True := trivial
      go_wp2_with (have _t := tkl; refine wp_load_f rfl 23 (.tmp 35) rfl rfl lki ?_; clear _t tkl)
      refine ⟨by (simp only [Sames]; refine ⟨?_, ?_, ?_, ?_, ?_, ?_, trivial⟩ <;> first | exact same_load rfl 23 (.tmp 35) rfl rfl lki rfl | (simp only [Same]; go_simp)), ?_⟩
      clear lki
      go_wp2_with (go_at_call 22; refine SEAL.out.mono ?_; rintro e w1 ⟨v1, own1, rfl, r1, q1, u1, e1, t1, iB, ty⟩; obtain ⟨A1, c1, rfl, _⟩ := id r1; rw [bs_len] at r1 q1 ty ⊢)
      refine ⟨by (simp only [Sames]; refine ⟨?_, ?_, trivial⟩ <;> (simp only [Same]; go_simp)), ?_⟩
      have R1 := Lib.hid r1; have Q1 := Lib.hid q1; have U1 := Lib.hid u1; have E1 := Lib.hid e1; have T1 := Lib.hid t1; have IB := Lib.hid iB; have TY := Lib.hid ty
      obtain ⟨ol, hol⟩ : ∃ y, (markS st ⟨xa, xb, xc, xd, xe, xf⟩ xtext).2.1.length = y := ⟨_, rfl⟩
      rw [hol] at R1 Q1 TY ⊢
      have hT2 := HT.out
      rw [HVL.out ()] at hT2
      have row1 : w1.ownsRow D 24 1 (.slice At2 k ct2) k vals := by
        have h1 := row_turns hT2.at_.row (Turns.trans (Turns.of_below (S := own2) (bw_d1 (Below.refl _ _))) t1) hT2.apart
        rw [HVL.out ()] at h1; exact h1
      have z1 := t1.size
      have hzo : wo.drew.heap.size = wo.heap.size := rfl
      have ROW := Lib.hid (ownsRow_keep row1 (bw_al (Below.refl _ _) (Nat.le_refl _) (.cells #[.slice A1 ol c1] 24)) (Nat.le_refl _))
      have BLK := Lib.hid (Blk.mk_ (cs := [.slice A1 ol c1]) w1 (t := 24) rfl rfl)
      have pD : D ≤ (w1.alloc (.cells #[.slice A1 ol c1] 24)).heap.size := by have := HDW.out; simp; omega
      have PD := Lib.hid pD
      have pk : k ≤ 1000000 := by omega
      clear r1 q1 u1 e1 t1 iB ty hol row1 hT2 z1 pD
      go_wp2_with (at_builtin; go_loud (refine wp_app_row 37 24 1 24 (.slice none 0 0) (.tmp 45) (.tmp 47) rfl rfl Tryd.underlying37 info_bytesB rfl (by decide) (by decide) D rfl ROW.out rfl BLK.out rfl (by intro u hu; rw [List.mem_singleton.1 hu]; rfl) pk PD.out ?_; intro tv3 w3 row3 t3 hh3); obtain ⟨A3, c3, rfl⟩ := row_slice row3)
      have hT2 := HT.out
      rw [HVL.out ()] at hT2
      have hsm9 := markS_small st ⟨xa, xb, xc, xd, xe, xf⟩ xtext
      have hln9 := markS_len st ⟨xa, xb, xc, xd, xe, xf⟩ xtext
      have hsm8 := hT2.small
      have step := Telling.step hT2 HDW.out R1.out Q1.out U1.out E1.out ((Turns.of_below (bw_d1 (Below.refl _ _))).trans T1.out) IB.out TY.out (bw_al (Below.refl _ _) (Nat.le_refl _) (.cells #[.slice A1 ol c1] 24)) (by rw [HVL.out ()]; exact row3) t3 hh3 ⟨by omega, by omega, by omega⟩ (by have := HXS.out; have := HLXT.out (); omega)
      have hto := HTO.out.step ⟨⟨xa, xb, xc, xd, xe, xf⟩, xtext⟩
      have hmt : (l.take (k + 1)).map toM = (l.take k).map toM ++ [⟨⟨xa, xb, xc, xd, xe, xf⟩, xtext⟩] := take_map_succ toM HX.out
      exact ⟨⟨k + 1, own1, _, _, _, by omega, by simp, step, by have := T1.out.size; have := t3.size; have := HDW.out; simp at *; omega, by rw [hmt]; exact hto⟩, by simp [intOf]; omega⟩
    · obtain rfl : k = m := by omega
      have hkz : Blk wo Z [.int .u8 kd, .int .i64 ia, .int .i64 ib, .int .i64 ic, .int .i64 id_, .int .i64 ie, .int .i64 if_, .int .i64 n, .slice Aa la ca, .slice At lt ct, .int .u8 at_, .int .u8 by_] 26 := HK2.out.stay HT.out.box.low
      have HKZ := Lib.hid hkz
      have hT2 := HT.out
      rw [HVL.out ()] at hT2
      have hAo := HA.out.stay HBW.out (by omega)
      have P0 := pick08_any wo D _ _ vals told _ hT2.at_ hAo (by rw [hT2.len]; omega) (fun x hx => by have := hT2.short x hx; omega)
      simp only [ActBS.cells] at P0
      obtain ⟨hid, hhid⟩ : ∃ hid, pickL told ⟨kd, ⟨ia, ib, ic, id_, ie, if_⟩, n, .slice Aa la ca, ad, .slice At lt ct, text, at_, by_⟩ = hid := ⟨_, rfl⟩
      rw [hhid] at P0
      have PICK := Lib.hid P0
      have HAO := Lib.hid hAo
      have x0 := hkz.at_ 0 rfl
      have x1 := hkz.at_ 1 rfl
      have x2 := hkz.at_ 2 rfl
      have x3 := hkz.at_ 3 rfl
      have x4 := hkz.at_ 4 rfl
      have x5 := hkz.at_ 5 rfl
      have x6 := hkz.at_ 6 rfl
      have x7 := hkz.at_ 7 rfl
      have x8 := hkz.at_ 8 rfl
      have x9 := hkz.at_ 9 rfl
      have x10 := hkz.at_ 10 rfl
      have x11 := hkz.at_ 11 rfl
      have hldb : Z < wo.heap.size := by have := HT.out.box.low.size; have := HZ2.out (); omega
      clear hkz hT2 hAo P0 hhid
      go_upto_region 11 with (go_at_call 21; refine PICK.out.mono ?_; rintro e w10 ⟨v10, rfl, r10, i10, hb10⟩; obtain ⟨A10, c10, rfl, _⟩ := id r10; rw [bs_len] at r10 ⊢)
      have HKZ2 := Lib.hid (HKZ.out.stay hb10)
      have HB10 := Lib.hid hb10; have R10 := Lib.hid r10; have I10 := Lib.hid i10
      obtain ⟨hl, hhl⟩ : ∃ y, hid.length = y := ⟨_, rfl⟩
      rw [hhl] at R10 ⊢
      have LW := Lib.hid (show Below Z w w10 from bw_then HBW.out hb10 (by omega))
      have hZ10 : Z ≤ w10.heap.size := by have := hb10.size; omega
      obtain ⟨Mt, hMt⟩ : ∃ Mt : Nat → Prop, (fun i => ∃ y, l[i]? = some y ∧ y.id.ok = true ∧ y.id = ⟨ia, ib, ic, id_, ie, if_⟩ ∧ y.text = text ∧ told[i]? = some hid) = Mt := ⟨_, rfl⟩
      have HMT := Lib.hid (fun _ : Unit => hMt)
      have hT2 := HT.out
      rw [HVL.out ()] at hT2
      have HT2 := Lib.hid hT2
      have CHK : checkS st ⟨ia, ib, ic, id_, ie, if_⟩ text hid = true ↔ ∃ i, i < k ∧ Mt i := by
        rw [check_iff HTO.out (by rw [List.length_map, List.length_take]; omega) i10, ← hMt]
        constructor
        · rintro ⟨i, x, p1, p2, p3, p4, p5⟩
          rw [List.getElem?_map] at p1
          obtain ⟨y, q1, q2⟩ := Option.map_eq_some_iff.1 p1
          have hik : i < k := by
            have := (List.getElem?_eq_some_iff.1 q1).1
            rw [List.length_take] at this; omega
          rw [List.getElem?_take_of_lt hik] at q1
          subst q2
          exact ⟨i, hik, y, q1, p2, p3, p4, p5⟩
        · rintro ⟨i, hik, y, q1, p2, p3, p4, p5⟩
          exact ⟨i, toM y, by rw [List.getElem?_map, List.getElem?_take_of_lt hik, q1]; rfl, p2, p3, p4, p5⟩
      have HCHK := Lib.hid CHK
      clear CHK hMt hT2 hb10 r10 i10 hhl PICK x0 x1 x2 x3 x4 x5 x6 x7 x8 x9 x10 x11
      go_upto_region 13 with fail
      go_loopw [11, 12] (fun rv x wr => ∃ (j : Nat) (b : Bool), j ≤ k ∧ x = .int .i64 j ∧ rv = .bool b ∧ (b = true ↔ ∃ i, i < j ∧ Mt i) ∧ Below w10.heap.size w10 wr) (fun _ x _ => k - (intOf x).toNat)
      case atStart => exact ⟨0, false, by omega, rfl, rfl, ⟨fun h => (by cases h), fun ⟨i, hi, _⟩ => by omega⟩, Below.refl _ _⟩
      case round =>
        obtain ⟨j, b, hj, rfl, rfl, hbM, hbr⟩ := hrel
        obtain ⟨wq, rfl⟩ : ∃ wq : World, wq = wr := ⟨_, rfl⟩
        have HBM := Lib.hid hbM
        have LQ := Lib.hid (bw_next HB10.out hbr)
        have LZQ := Lib.hid (bw_then LW.out hbr hZ10)
        have zq := hbr.size
        have B10 := Lib.hid hbr
        clear hbM hbr
        by_cases hlj : j < k
        · obtain ⟨y, hy⟩ : ∃ y, l[j]? = some y := ⟨l[j]'(by rw [HM.out ()]; exact hlj), List.getElem?_eq_getElem _⟩
          have hjt : j < told.length := by have := HT2.out.len; omega
          obtain ⟨tx, htx⟩ : ∃ x, told[j]? = some x := ⟨told[j], List.getElem?_eq_getElem _⟩
          obtain ⟨u, hu⟩ : ∃ u, vals[j]? = some u := ⟨vals[j]'(by rw [HT2.out.at_.len]; exact hjt), List.getElem?_eq_getElem _⟩
          have hent := HT2.out.at_.each j u tx hu htx
          obtain ⟨gT, capT, hAT, hcT, -, -⟩ := row_cell HT2.out.at_.row hu
          injection hAT with hAT hk9 hc9
          clear hk9 hc9
          subst hAT
          obtain ⟨Au, cu, hvu, -⟩ := id hent.rd
          rw [bs_len] at hvu
          subst hvu
          obtain ⟨bb, oo, hAA, hbb, hcs⟩ := HC.out (by rintro rfl; simp at hy)
          subst hAA
          rw [hZ] at hbb
          have hY := HL.out.each y (List.mem_of_getElem? hy)
          have hl0 := fun (w' : World) (hb : Below Z w w') => @ActsAt.load _ w' _ _ HL.out bb oo j y (hcs j y hy) Z hb hbb 23 1
          have e2 : ∀ (w' : World), Below Z w w' → ∀ i, i < 12 → w'.cell? ⟨bb, oo + j * 12 + i, none⟩ = y.cells[i]? := fun w' hb i hi => (hb.cell (p := ⟨bb, oo + j * 12 + i, none⟩) hbb).trans (hcs j y hy i hi)
          obtain ⟨ykd, ⟨ya, yb, yc, yd, ye, yf⟩, yn, yva, yad, yvt, ytext, yat, yby⟩ := y
          obtain ⟨Ty, cty, hyvt, -⟩ := id hY.rt
          simp only at hyvt
          rw [bs_len] at hyvt
          subst hyvt
          have rT := hY.rt
          simp only at rT
          obtain ⟨ylt, hylt⟩ : ∃ z, ytext.length = z := ⟨_, rfl⟩
          obtain ⟨txl, htxl⟩ : ∃ z, tx.length = z := ⟨_, rfl⟩
          have rU := hent.rd
          rw [htxl] at hcT rU
          rw [hylt] at hl0 rT hy e2
          have LKA := Lib.hid (show ∀ w', Below Z w w' → (loadVar 23 ⟨bb, oo + j * 12 + 1, none⟩).run Tryd.prog w' = .ok (.agg #[.int .i64 ya, .int .i64 yb, .int .i64 yc, .int .i64 yd, .int .i64 ye, .int .i64 yf]) w' from fun w' hb =>
            hl0 w' hb (ys := [.int .i64 ya, .int .i64 yb, .int .i64 yc, .int .i64 yd, .int .i64 ye, .int .i64 yf]) (n := 6) rfl (by simp) Tryd.underlying23 rfl (by kernel_rfl) rfl)
          have C9A := Lib.hid (show ∀ w', Below Z w w' → w'.cell? ⟨bb, oo + j * 12 + 9, none⟩ = some (.slice Ty ylt cty) from fun w' hb => e2 w' hb 9 (by decide))
          have CTA := Lib.hid (show ∀ w', Below wo.heap.size wo w' → w'.cell? ⟨gT, j, none⟩ = some (.slice Au txl cu) from fun w' hb => cell_stay hb hcT)
          have iT := hY.isT
          have iU := hent.isB
          simp only at iT
          have EQ1F := Lib.hid (fun (w' : World) (hb : Below wo.heap.size wo w') (hz : Below Z w w') => equal_any _ _ ytext text w' (rT.stay hz (by omega)) (HAO.out.rt.stay hb (Nat.le_refl _)) iT HAO.out.isT)
          have EQ2F := Lib.hid (fun (w' : World) (hb : Below wo.heap.size wo w') (hb10 : Below w10.heap.size w10 w') => equal_any _ _ tx hid w' (rU.stay hb (Nat.le_refl _)) (R10.out.stay hb10 (Nat.le_refl _)) iU I10.out)
          obtain ⟨f1, hf1⟩ : ∃ f, eqB ytext text = f := ⟨_, rfl⟩
          obtain ⟨f2, hf2⟩ : ∃ f, eqB tx hid = f := ⟨_, rfl⟩
          rw [hf1] at EQ1F
          rw [hf2] at EQ2F
          have VA0 := valid_any ⟨ya, yb, yc, yd, ye, yf⟩ wq.drew
          obtain ⟨vb, hvb⟩ : ∃ z, Kid.ok ⟨ya, yb, yc, yd, ye, yf⟩ = z := ⟨_, rfl⟩
          rw [hvb] at VA0
          simp only [Kid.cells] at VA0
          have VA := Lib.hid VA0
          have MT : Mt j ↔ vb = true ∧ (⟨ya, yb, yc, yd, ye, yf⟩ : Kid) = ⟨ia, ib, ic, id_, ie, if_⟩ ∧ f1 = true ∧ f2 = true := by
            rw [← HMT.out (), ← hvb, ← hf1, ← hf2]
            simp only [eqB, beq_iff_eq]
            constructor
            · rintro ⟨y', g1, g2, g3, g4, g5⟩
              rw [hy] at g1
              obtain rfl := Option.some.inj g1
              rw [htx] at g5
              exact ⟨g2, g3, g4, Option.some.inj g5⟩
            · rintro ⟨g2, g3, g4, g5⟩
              exact ⟨_, hy, g2, g3, g4, by rw [htx, g5]⟩
          have HMTJ := Lib.hid (fun _ : Unit => MT)
          have NEXT : ∀ b' : Bool, (b' = true ↔ b = true ∨ Mt j) → (b' = true ↔ ∃ i, i < j + 1 ∧ Mt i) := by
            intro b' hb'
            rw [hb', HBM.out]
            constructor
            · rintro (⟨i, hi, hm⟩ | hm)
              · exact ⟨i, by omega, hm⟩
              · exact ⟨j, by omega, hm⟩
            · rintro ⟨i, hi, hm⟩
              rcases Nat.lt_or_eq_of_le (Nat.lt_succ_iff.1 hi) with h | h
              · exact .inl ⟨i, h, hm⟩
              · exact .inr (h ▸ hm)
          have NXT := Lib.hid NEXT
          have lzd := bw_d1 LZQ.out
          have lod := bw_d1 LQ.out
          have hzd : wq.drew.heap.size = wq.heap.size := rfl
          have lk1 := LKA.out _ lzd
          have c9q := C9A.out _ lzd
          have ctq := CTA.out _ lod
          have hkd := (HKZ2.out.stay B10.out).d1
          have x1 := hkd.at_ 1 (v := .int .i64 ia) rfl
          have x2 := hkd.at_ 2 (v := .int .i64 ib) rfl
          have x3 := hkd.at_ 3 (v := .int .i64 ic) rfl
          have x4 := hkd.at_ 4 (v := .int .i64 id_) rfl
          have x5 := hkd.at_ 5 (v := .int .i64 ie) rfl
          have x6 := hkd.at_ 6 (v := .int .i64 if_) rfl
          have x9 := hkd.at_ 9 (v := .slice At lt ct) rfl
          have LZD := Lib.hid lzd; have LOD := Lib.hid lod; have HKD := Lib.hid hkd; have B10D := Lib.hid (bw_d1 B10.out)
          clear hl0 e2 hcs hY hent hu htx hylt htxl rT rU iT iU hcT hy hf1 hf2 hvb VA0 MT NEXT lzd lod hkd hzd
          have tkV : True := trivial
          have tkE1 : True := trivial
          have tkE2 : True := trivial
          have tkL : True := trivial
          go_upto_region 15 with fail
          by_cases hbt : b = true
          · subst hbt
            refine region_plan ⟨[0, 1, 3, 3, 15, 31, 63, 127, 255, 511, 511, 2047, 4095, 8191, 511, 16895, 65535, 131071, 262143, 524287, 524287, 2097151, 4194303, 8388607, 524287, 17301503, 67108863, 134217727, 268435455, 536870911, 536870911, 2147483647, 4294967295, 536870911, 17179869183, 34359738367, 68719476735, 137438953471], [7, 26, 34], [0, 0, 0, 0, 0, 0, 0, 0, 1, 1, 1, 1, 1, 1, 1, 1, 1, 1, 1, 1, 1, 1, 1, 1, 1, 1, 1, 2, 2, 2, 2, 2, 2, 2, 2, 3, 3, 3]⟩
              [⟨[0, 1, 2, 3, 4, 5, 6], [4, 5, 6], some 7⟩, ⟨[8, 9, 10, 11, 12, 13, 14, 15, 16, 17, 18, 19, 20, 21, 22, 23, 24, 25], [11, 12, 13, 14, 15, 16, 21, 22, 23, 24, 25], some 26⟩, ⟨[27, 28, 29, 30, 31, 32, 33], [31, 32], some 34⟩, ⟨[35, 36, 37], [], none⟩] 107 (by kernel_rfl) (by kernel_rfl) (by kernel_rfl) (by kernel_rfl) rfl ?_
            simp only [SeqGo, opsAt_cons, opsAt_nil, List.getElem?_cons, Option.toList_some, List.singleton_append, ↓reduceIte, Nat.reduceEqDiff, Nat.reduceSub]
            go_wp2_with fail
            iterate 8 (try (first | refine And.intro (a := True) trivial ?_ | refine And.intro (show Sames _ _ _ _ _ from by (simp only [Sames, Same]; go_simp; try simp [undef])) ?_); try go_wp2_with fail)
            exact ⟨⟨j + 1, true, by omega, by simp, rfl, NXT.out true (by simp), B10D.out⟩, by simp [intOf]; omega⟩
          · obtain rfl : b = false := by simpa using hbt
            clear hbt
            have ZQD := Lib.hid (show Z ≤ wq.drew.heap.size by show Z ≤ wq.heap.size; omega)
            have tkM : True := trivial
            cases vb with
            | false =>
              refine region_plan ⟨[0, 1, 3, 3, 15, 31, 63, 127, 255, 511, 511, 2047, 4095, 8191, 511, 16895, 65535, 131071, 262143, 524287, 524287, 2097151, 4194303, 8388607, 524287, 17301503, 67108863, 134217727, 268435455, 536870911, 536870911, 2147483647, 4294967295, 536870911, 17179869183, 34359738367, 68719476735, 137438953471], [7, 26, 34], [0, 0, 0, 0, 0, 0, 0, 0, 1, 1, 1, 1, 1, 1, 1, 1, 1, 1, 1, 1, 1, 1, 1, 1, 1, 1, 1, 2, 2, 2, 2, 2, 2, 2, 2, 3, 3, 3]⟩
                [⟨[0, 1, 2, 3, 4, 5, 6], [4, 5, 6], some 7⟩, ⟨[8, 9, 10, 11, 12, 13, 14, 15, 16, 17, 18, 19, 20, 21, 22, 23, 24, 25], [11, 12, 13, 14, 15, 16, 21, 22, 23, 24, 25], some 26⟩, ⟨[27, 28, 29, 30, 31, 32, 33], [31, 32], some 34⟩, ⟨[35, 36, 37], [], none⟩] 107 (by kernel_rfl) (by kernel_rfl) (by kernel_rfl) (by kernel_rfl) rfl ?_
              simp only [SeqGo, opsAt_cons, opsAt_nil, List.getElem?_cons, Option.toList_some, List.singleton_append, ↓reduceIte, Nat.reduceEqDiff, Nat.reduceSub]
              go_wp2_with (have _t := tkL; refine wp_load_f (by rfl) 23 (.tmp 63) rfl rfl lk1 ?_; clear _t tkL)
              refine And.intro (show Sames _ _ _ _ _ from by (simp only [Sames]; refine ⟨?_, ?_, ?_, trivial⟩ <;> first | exact same_load (by rfl) 23 (.tmp 63) rfl rfl lk1 rfl | (simp only [Same]; go_simp; try simp [undef]))) ?_
              go_wp2_with (have _t := tkV; clear _t tkV; go_at_call 23; refine VA.out.mono ?_; rintro e wv ⟨rfl, hbv⟩; have lzv := bw_then LZD.out hbv ZQD.out; have lov := bw_next LOD.out hbv; have b10v := bw_next B10D.out hbv; have lk2 := LKA.out _ lzv; have c9v := C9A.out _ lzv; have ctv := CTA.out _ lov; have hkv := HKD.out.stay hbv; have v1 := hkv.at_ 1 (v := .int .i64 ia) rfl; have v2 := hkv.at_ 2 (v := .int .i64 ib) rfl; have v3 := hkv.at_ 3 (v := .int .i64 ic) rfl; have v4 := hkv.at_ 4 (v := .int .i64 id_) rfl; have v5 := hkv.at_ 5 (v := .int .i64 ie) rfl; have v6 := hkv.at_ 6 (v := .int .i64 if_) rfl; have v9 := hkv.at_ 9 (v := .slice At lt ct) rfl; have EQ1 := Lib.hid (EQ1F.out _ lov lzv); have EQ2 := Lib.hid (EQ2F.out _ lov b10v))
              iterate 8 (try (first | refine And.intro (a := True) trivial ?_ | refine And.intro (show Sames _ _ _ _ _ from by (simp only [Sames, Same]; go_simp; try simp [undef])) ?_); try go_wp2_with fail)
              exact ⟨⟨j + 1, false, by omega, by simp, rfl, NXT.out false (by have := HMTJ.out (); simp [this]), b10v⟩, by simp [intOf]; omega⟩
            | true =>
              by_cases hE : (⟨ya, yb, yc, yd, ye, yf⟩ : Kid) = ⟨ia, ib, ic, id_, ie, if_⟩
              · have HE := Lib.hid hE
                injection hE with e1 e2 e3 e4 e5 e6
                subst e1 e2 e3 e4 e5 e6
                cases f1 with
                | false =>
                  refine region_plan ⟨[0, 1, 3, 3, 15, 31, 63, 127, 255, 511, 511, 2047, 4095, 8191, 511, 16895, 65535, 131071, 262143, 524287, 524287, 2097151, 4194303, 8388607, 524287, 17301503, 67108863, 134217727, 268435455, 536870911, 536870911, 2147483647, 4294967295, 536870911, 17179869183, 34359738367, 68719476735, 137438953471], [7, 26, 34], [0, 0, 0, 0, 0, 0, 0, 0, 1, 1, 1, 1, 1, 1, 1, 1, 1, 1, 1, 1, 1, 1, 1, 1, 1, 1, 1, 2, 2, 2, 2, 2, 2, 2, 2, 3, 3, 3]⟩
                    [⟨[0, 1, 2, 3, 4, 5, 6], [4, 5, 6], some 7⟩, ⟨[8, 9, 10, 11, 12, 13, 14, 15, 16, 17, 18, 19, 20, 21, 22, 23, 24, 25], [11, 12, 13, 14, 15, 16, 21, 22, 23, 24, 25], some 26⟩, ⟨[27, 28, 29, 30, 31, 32, 33], [31, 32], some 34⟩, ⟨[35, 36, 37], [], none⟩] 107 (by kernel_rfl) (by kernel_rfl) (by kernel_rfl) (by kernel_rfl) rfl ?_
                  simp only [SeqGo, opsAt_cons, opsAt_nil, List.getElem?_cons, Option.toList_some, List.singleton_append, ↓reduceIte, Nat.reduceEqDiff, Nat.reduceSub]
                  go_wp2_with (have _t := tkL; refine wp_load_f (by rfl) 23 (.tmp 63) rfl rfl lk1 ?_; clear _t tkL)
                  refine And.intro (show Sames _ _ _ _ _ from by (simp only [Sames]; refine ⟨?_, ?_, ?_, trivial⟩ <;> first | exact same_load (by rfl) 23 (.tmp 63) rfl rfl lk1 rfl | (simp only [Same]; go_simp; try simp [undef]))) ?_
                  go_wp2_with (first | (have _t := tkV; clear _t tkV; go_at_call 23; refine VA.out.mono ?_; rintro e wv ⟨rfl, hbv⟩; have lzv := bw_then LZD.out hbv ZQD.out; have lov := bw_next LOD.out hbv; have b10v := bw_next B10D.out hbv; have lk2 := LKA.out _ lzv; have c9v := C9A.out _ lzv; have ctv := CTA.out _ lov; have hkv := HKD.out.stay hbv; have v1 := hkv.at_ 1 (v := .int .i64 ya) rfl; have v2 := hkv.at_ 2 (v := .int .i64 yb) rfl; have v3 := hkv.at_ 3 (v := .int .i64 yc) rfl; have v4 := hkv.at_ 4 (v := .int .i64 yd) rfl; have v5 := hkv.at_ 5 (v := .int .i64 ye) rfl; have v6 := hkv.at_ 6 (v := .int .i64 yf) rfl; have v9 := hkv.at_ 9 (v := .slice At lt ct) rfl; have EQ1 := Lib.hid (EQ1F.out _ lov lzv); have EQ2 := Lib.hid (EQ2F.out _ lov b10v)) | (have _t := tkM; refine wp_load_f (by rfl) 23 (.tmp 70) rfl rfl lk2 ?_; clear _t tkM))
                  refine And.intro (show Sames _ _ _ _ _ from by (simp only [Sames]; refine ⟨?_, ?_, ?_, ?_, ?_, ?_, ?_, ?_, ?_, ?_, ?_, trivial⟩ <;> first | exact same_load (by rfl) 23 (.tmp 70) rfl rfl lk2 rfl | exact same_load (by rfl) 23 (.tmp 70) rfl rfl lk2 (by first | simp [*] | simp_all) | (simp only [Same]; go_simp; try simp [undef]))) ?_
                  go_wp2_with (have _t := tkE1; clear _t tkE1; go_at_call 20; refine EQ1.out.mono ?_; rintro e wa ⟨rfl, rfl⟩)
                  iterate 8 (try (first | refine And.intro (a := True) trivial ?_ | refine And.intro (show Sames _ _ _ _ _ from by (simp only [Sames, Same]; go_simp; try simp [undef])) ?_); try go_wp2_with fail)
                  exact ⟨⟨j + 1, false, by omega, by simp, rfl, NXT.out false (by have := HMTJ.out (); simp [this]), b10v⟩, by simp [intOf]; omega⟩
                | true =>
                  refine region_plan ⟨[0, 1, 3, 3, 15, 31, 63, 127, 255, 511, 511, 2047, 4095, 8191, 511, 16895, 65535, 131071, 262143, 524287, 524287, 2097151, 4194303, 8388607, 524287, 17301503, 67108863, 134217727, 268435455, 536870911, 536870911, 2147483647, 4294967295, 536870911, 17179869183, 34359738367, 68719476735, 137438953471], [7, 26, 34], [0, 0, 0, 0, 0, 0, 0, 0, 1, 1, 1, 1, 1, 1, 1, 1, 1, 1, 1, 1, 1, 1, 1, 1, 1, 1, 1, 2, 2, 2, 2, 2, 2, 2, 2, 3, 3, 3]⟩
                    [⟨[0, 1, 2, 3, 4, 5, 6], [4, 5, 6], some 7⟩, ⟨[8, 9, 10, 11, 12, 13, 14, 15, 16, 17, 18, 19, 20, 21, 22, 23, 24, 25], [11, 12, 13, 14, 15, 16, 21, 22, 23, 24, 25], some 26⟩, ⟨[27, 28, 29, 30, 31, 32, 33], [31, 32], some 34⟩, ⟨[35, 36, 37], [], none⟩] 107 (by kernel_rfl) (by kernel_rfl) (by kernel_rfl) (by kernel_rfl) rfl ?_
                  simp only [SeqGo, opsAt_cons, opsAt_nil, List.getElem?_cons, Option.toList_some, List.singleton_append, ↓reduceIte, Nat.reduceEqDiff, Nat.reduceSub]
                  go_wp2_with (have _t := tkL; refine wp_load_f (by rfl) 23 (.tmp 63) rfl rfl lk1 ?_; clear _t tkL)
                  refine And.intro (show Sames _ _ _ _ _ from by (simp only [Sames]; refine ⟨?_, ?_, ?_, trivial⟩ <;> first | exact same_load (by rfl) 23 (.tmp 63) rfl rfl lk1 rfl | (simp only [Same]; go_simp; try simp [undef]))) ?_
                  go_wp2_with (first | (have _t := tkV; clear _t tkV; go_at_call 23; refine VA.out.mono ?_; rintro e wv ⟨rfl, hbv⟩; have lzv := bw_then LZD.out hbv ZQD.out; have lov := bw_next LOD.out hbv; have b10v := bw_next B10D.out hbv; have lk2 := LKA.out _ lzv; have c9v := C9A.out _ lzv; have ctv := CTA.out _ lov; have hkv := HKD.out.stay hbv; have v1 := hkv.at_ 1 (v := .int .i64 ya) rfl; have v2 := hkv.at_ 2 (v := .int .i64 yb) rfl; have v3 := hkv.at_ 3 (v := .int .i64 yc) rfl; have v4 := hkv.at_ 4 (v := .int .i64 yd) rfl; have v5 := hkv.at_ 5 (v := .int .i64 ye) rfl; have v6 := hkv.at_ 6 (v := .int .i64 yf) rfl; have v9 := hkv.at_ 9 (v := .slice At lt ct) rfl; have EQ1 := Lib.hid (EQ1F.out _ lov lzv); have EQ2 := Lib.hid (EQ2F.out _ lov b10v)) | (have _t := tkM; refine wp_load_f (by rfl) 23 (.tmp 70) rfl rfl lk2 ?_; clear _t tkM))
                  refine And.intro (show Sames _ _ _ _ _ from by (simp only [Sames]; refine ⟨?_, ?_, ?_, ?_, ?_, ?_, ?_, ?_, ?_, ?_, ?_, trivial⟩ <;> first | exact same_load (by rfl) 23 (.tmp 70) rfl rfl lk2 rfl | exact same_load (by rfl) 23 (.tmp 70) rfl rfl lk2 (by first | simp [*] | simp_all) | (simp only [Same]; go_simp; try simp [undef]))) ?_
                  go_wp2_with (have _t := tkE1; clear _t tkE1; go_at_call 20; refine EQ1.out.mono ?_; rintro e wa ⟨rfl, rfl⟩)
                  (first | refine And.intro (a := True) trivial ?_ | refine And.intro (show Sames _ _ _ _ _ from by (simp only [Sames, Same]; go_simp; try simp [undef])) ?_)
                  go_wp2_with (have _t := tkE2; clear _t tkE2; go_at_call 20; refine EQ2.out.mono ?_; rintro e wa ⟨rfl, rfl⟩)
                  iterate 8 (try (first | refine And.intro (a := True) trivial ?_ | refine And.intro (show Sames _ _ _ _ _ from by (simp only [Sames, Same]; go_simp; try simp [undef])) ?_); try go_wp2_with fail)
                  exact ⟨⟨j + 1, f2, by omega, by simp, rfl, NXT.out f2 (by have := HMTJ.out (); simp [this]), b10v⟩, by simp [intOf]; omega⟩
              · have HNE := Lib.hid hE
                refine region_plan ⟨[0, 1, 3, 3, 15, 31, 63, 127, 255, 511, 511, 2047, 4095, 8191, 511, 16895, 65535, 131071, 262143, 524287, 524287, 2097151, 4194303, 8388607, 524287, 17301503, 67108863, 134217727, 268435455, 536870911, 536870911, 2147483647, 4294967295, 536870911, 17179869183, 34359738367, 68719476735, 137438953471], [7, 26, 34], [0, 0, 0, 0, 0, 0, 0, 0, 1, 1, 1, 1, 1, 1, 1, 1, 1, 1, 1, 1, 1, 1, 1, 1, 1, 1, 1, 2, 2, 2, 2, 2, 2, 2, 2, 3, 3, 3]⟩
                  [⟨[0, 1, 2, 3, 4, 5, 6], [4, 5, 6], some 7⟩, ⟨[8, 9, 10, 11, 12, 13, 14, 15, 16, 17, 18, 19, 20, 21, 22, 23, 24, 25], [11, 12, 13, 14, 15, 16, 21, 22, 23, 24, 25], some 26⟩, ⟨[27, 28, 29, 30, 31, 32, 33], [31, 32], some 34⟩, ⟨[35, 36, 37], [], none⟩] 107 (by kernel_rfl) (by kernel_rfl) (by kernel_rfl) (by kernel_rfl) rfl ?_
                simp only [SeqGo, opsAt_cons, opsAt_nil, List.getElem?_cons, Option.toList_some, List.singleton_append, ↓reduceIte, Nat.reduceEqDiff, Nat.reduceSub]
                go_wp2_with (have _t := tkL; refine wp_load_f (by rfl) 23 (.tmp 63) rfl rfl lk1 ?_; clear _t tkL)
                refine And.intro (show Sames _ _ _ _ _ from by (simp only [Sames]; refine ⟨?_, ?_, ?_, trivial⟩ <;> first | exact same_load (by rfl) 23 (.tmp 63) rfl rfl lk1 rfl | (simp only [Same]; go_simp; try simp [undef]))) ?_
                go_wp2_with (first | (have _t := tkV; clear _t tkV; go_at_call 23; refine VA.out.mono ?_; rintro e wv ⟨rfl, hbv⟩; have lzv := bw_then LZD.out hbv ZQD.out; have lov := bw_next LOD.out hbv; have b10v := bw_next B10D.out hbv; have lk2 := LKA.out _ lzv; have c9v := C9A.out _ lzv; have ctv := CTA.out _ lov; have hkv := HKD.out.stay hbv; have v1 := hkv.at_ 1 (v := .int .i64 ia) rfl; have v2 := hkv.at_ 2 (v := .int .i64 ib) rfl; have v3 := hkv.at_ 3 (v := .int .i64 ic) rfl; have v4 := hkv.at_ 4 (v := .int .i64 id_) rfl; have v5 := hkv.at_ 5 (v := .int .i64 ie) rfl; have v6 := hkv.at_ 6 (v := .int .i64 if_) rfl; have v9 := hkv.at_ 9 (v := .slice At lt ct) rfl; have EQ1 := Lib.hid (EQ1F.out _ lov lzv); have EQ2 := Lib.hid (EQ2F.out _ lov b10v)) | (have _t := tkM; refine wp_load_f (by rfl) 23 (.tmp 70) rfl rfl lk2 ?_; clear _t tkM))
                all_goals (refine And.intro (show Sames _ _ _ _ _ from by (simp only [Sames]; refine ⟨?_, ?_, ?_, ?_, ?_, ?_, ?_, ?_, ?_, ?_, ?_, trivial⟩ <;> first | exact same_load (by rfl) 23 (.tmp 70) rfl rfl lk2 rfl | exact same_load (by rfl) 23 (.tmp 70) rfl rfl lk2 (by first | simp [*] | simp_all) | (simp only [Same]; go_simp; try simp [undef]))) ?_)
                all_goals (go_wp2_with fail)
                all_goals (iterate 8 (try (first | refine And.intro (a := True) trivial ?_ | refine And.intro (show Sames _ _ _ _ _ from by (simp only [Sames, Same]; go_simp; try simp [undef])) ?_); try go_wp2_with fail))
                all_goals first | (exfalso; apply HNE.out; simp [*]; done) | exact ⟨⟨j + 1, false, by omega, by simp, rfl, NXT.out false (by simp only [Bool.false_eq_true, false_or, false_iff]; intro h; exact HNE.out ((HMTJ.out ()).1 h).2.1), b10v⟩, by simp [intOf]; omega⟩
        · obtain rfl : j = k := by omega
          have hkq := HKZ2.out.stay B10.out
          have x1 := hkq.at_ 1 (v := .int .i64 ia) rfl
          have x2 := hkq.at_ 2 (v := .int .i64 ib) rfl
          have x3 := hkq.at_ 3 (v := .int .i64 ic) rfl
          have x4 := hkq.at_ 4 (v := .int .i64 id_) rfl
          have x5 := hkq.at_ 5 (v := .int .i64 ie) rfl
          have x6 := hkq.at_ 6 (v := .int .i64 if_) rfl
          have x9 := hkq.at_ 9 (v := .slice At lt ct) rfl
          have C0 := checkU R0 (Kind.ideal _) (HT.out.box.stay LQ.out) ⟨ia, ib, ic, id_, ie, if_⟩ _ _ text hid (HAO.out.rt.stay LQ.out (Nat.le_refl _)) HAO.out.isT (R10.out.stay B10.out (Nat.le_refl _)) I10.out
          rw [checkX_ideal, show checkS st ⟨ia, ib, ic, id_, ie, if_⟩ text hid = b from by rw [Bool.eq_iff_iff, HCHK.out, HBM.out]] at C0
          have CK := Lib.hid C0
          have hzz := B10.out.size
          clear C0 hkq
          go_wp2_with (first
            | (go_at_call 24; refine CK.out.mono ?_; rintro e wc ⟨rfl, hbc⟩)
            | (go_at_call 16; refine (awake08_any _).mono ?_; rintro e w' ⟨rfl, hb'⟩))
          all_goals (try go_ret)
          have := bw_then (bw_then LZQ.out hbc (by omega)) hb' (by have := hbc.size; omega)
          exact ⟨by first | rfl | simp, by first | exact this | (rw [hZ]; exact this)⟩

set_option maxRecDepth 100000 in
theorem contract (H : Type) (enc : TypeId × Value → H) (W : World) (base : Nat) (args : Array Value) (ds gs : List (DataW H)) (before : List MemPlace)
    (hval : ∀ (j : Nat) t v, Tryd.f5.params[j]? = some t → args[j]? = some v → Value.okWide Tryd.prog W .any base t v)
    (hW : DataW.Whole enc Tryd.prog Tryd.f5.params.toList Rows.boxMarkedSpec.vars false W args.toList ds gs before) (_hL : laidMetH Tryd.prog Rows.boxMarkedRow.laid W) :
    Calls Tryd.prog 5 args W fun e W' => ∃ v, e = .returned v ∧ Rows.boxMarkedSpec.post enc Tryd.prog Tryd.f5 false true false false W args v W' := by
  have hW' := hW
  obtain ⟨p, q, hA0, hV, rfl, hfz, hnd⟩ := hW
  have hA : DataW.TrodAll enc Tryd.prog W 0 (fun _ => true) true Tryd.f5.params.toList args.toList ds p := hA0
  rw [Tryd.params5] at hA hval
  obtain ⟨v0, vs0, d0, ds0, p0, q0, hargs0, rfl, rfl, h0, r0⟩ := trodAll_cons hA
  obtain ⟨v1, vs1, d1, ds1, p1, q1, hargs1, e1, rfl, h1, r1⟩ := trodAll_cons r0
  subst e1
  obtain ⟨e9, e8, e7⟩ := trodAll_nil r1
  subst e9 e8 e7
  obtain rfl : args = #[v0, v1] := by cases args; simp_all
  obtain ⟨rfl, rfl⟩ := trodVars_none hV
  have hv0 := hval 0 _ v0 rfl rfl
  have hv1 := hval 1 _ v1 rfl rfl
  clear hA0
  obtain ⟨fuel0, hf0⟩ := h0
  obtain ⟨fuel1, hf1⟩ := h1
  rw [one_of_ok Tryd.underlying28 rfl hv0] at hf0
  obtain ⟨u0, n0, f0, hcs0, he0, hf20⟩ := actsb_of_trod Tryd.underlying28 hf0
  obtain rfl : v0 = u0 := by simpa using hcs0
  obtain ⟨a1, ha1, hcs1⟩ := actb_of_trod hf1
  obtain ⟨x1, rfl⟩ : ∃ cs, v1 = .agg cs := by simp only [Value.okWide] at hv1; obtain ⟨cs, h, _⟩ := hv1; exact ⟨cs, h⟩
  obtain rfl : x1 = a1.cells.toArray := by apply Array.toList_inj.1; simpa [Value.cells] using hcs1
  refine (Exists.elim (actsAt_of he0 hf20) fun l0 hl0 => walk W v0 l0 a1 hl0 ha1).mono fun e W' ⟨he, hb⟩ => ⟨_, he, ?_⟩
  exact law_post Tryd.laidOut (by kernel_rfl) (by kernel_rfl) Tryd.underlying4 rfl rfl rfl rfl hW' hb

/-- A WORLD FOR THE WITNESS: the settled one, the table (block 0) holding what its initialiser lays. -/
noncomputable def laidWorld (os : Os) : World :=
  { World.holding Tryd.prog os ⟨#[], #[], []⟩ with heap := (((World.holding Tryd.prog os ⟨#[], #[], []⟩).heap.modify 0 (layT (ns64 rowsC))).modify 1 (layT (ns32 startC))).modify 2 (layT (ns32 cubesC)) }
def wit : Array Value := #[.slice none 0 0, .agg #[.int .u8 0, .int .i64 0, .int .i64 0, .int .i64 0, .int .i64 0, .int .i64 0, .int .i64 0, .int .i64 0, .slice none 0 0, .slice none 0 0, .int .u8 0, .int .u8 0]]
theorem laid_met (os : Os) : laidMet Tryd.prog Rows.boxMarkedRow.laid ((laidWorld os).forCall (fun _ _ => 0) ⟨#[], wit, []⟩).memory :=
  laidMet_of_run' 8 (by kernel_rfl) (by kernel_rfl)
theorem reads (os : Os) {H : Type} (enc : TypeId × Value → H) : ∃ ds places, DataW.whole enc Tryd.prog ((laidWorld os).forCall (fun _ _ => 0) ⟨#[], wit, []⟩).memory Tryd.f5.params.toList Rows.boxMarkedSpec.vars false wit.toList 8 = some (ds, [], places) :=
  ⟨[.nil, .agg [.lit (.int .u8 0), .agg [.lit (.int .i64 0), .lit (.int .i64 0), .lit (.int .i64 0), .lit (.int .i64 0), .lit (.int .i64 0), .lit (.int .i64 0)], .lit (.int .i64 0), .nil, .nil, .lit (.int .u8 0), .lit (.int .u8 0)]], [], by kernel_rfl⟩

set_option maxRecDepth 100000 in
theorem lifted (os : Os) (started : os.Started) (H : Type) (enc : TypeId × Value → H) (F : Stop.Interp) :
    ReturnsInHanded {} Tryd.checked os 5 .any ((OpenSpec.ofChange Rows.boxMarkedSpec).preRow enc Tryd.prog Tryd.f5 Rows.boxMarkedRow.domain false Rows.boxMarkedRow.laid) (((OpenSpec.ofChange Rows.boxMarkedSpec).at F).post enc Tryd.prog Tryd.f5 false true false false) := by
  obtain ⟨ds, places, hx⟩ := reads os enc
  refine returnsInHanded_of_row (C := Tryd.checked) (s := OpenSpec.ofChange Rows.boxMarkedSpec) Tryd.own started (by kernel_rfl) Tryd.func5
    (witness_row_at (enc := enc) (C := Tryd.checked) false (laidWorld os) wit rfl (by kernel_rfl) (by kernel_rfl) (by kernel_rfl)
      (OpenSpec.preRow_of_cond 8 hx (by kernel_rfl) (fun k hk => by cases hk) (by kernel_rfl) (laid_met os))) ?_
  intro W base args ds gs before hval hW _ _ _ hL _ _
  exact contract H enc W base args ds gs before hval hW hL

theorem said : Rows.BoxMarkedSaid :=
  OpenClaim.holds_of_cond 5 Tryd.f5 rfl rfl rfl rfl rfl rfl rfl ⟨rfl, rfl, rfl, rfl, rfl⟩ rfl rfl rfl rfl rfl (by kernel_rfl) Tryd.func5 (by kernel_rfl)
    (of_decide_eq_true (by kernel_rfl)) (by unfold Func.isWrapper; first | (rw [if_pos (by decide +kernel)]; kernel_rfl) | (rw [if_neg (by decide +kernel)]; exact ⟨rfl, rfl⟩))
    (fun os started H enc _ F => by rw [OpenClaim.pre_eq_preRow]; exact lifted os started H enc F)

/-- No parameter wants a stand-in; the program's own looks are off. -/
theorem plain (f : FuncId) (fn : Func) (hf : Tryd.pinned.checked.prog.funcNamed "intaglio/intagliolaw08.BoxMarked" = some f) (hfn : Tryd.pinned.checked.prog.funcs[f]? = some fn) :
    false = Tryd.pinned.checked.prog.looks [] ∧ ∀ (j : Nat) t, fn.params[j]? = some t → Tryd.pinned.checked.prog.wantsStandIn t = false := by
  obtain rfl : f = 5 := Option.some.inj ((show Tryd.prog.funcNamed "intaglio/intagliolaw08.BoxMarked" = some 5 by kernel_rfl).symm.trans hf) |>.symm
  obtain rfl : fn = Tryd.f5 := (Option.some.inj (Tryd.func5.symm.trans hfn)).symm
  refine ⟨by kernel_rfl, fun j t ht => ?_⟩
  rw [Tryd.params5] at ht
  have hall : (#[28, 26].toList.all fun u => !Tryd.prog.wantsStandIn u) = true := by kernel_rfl
  exact (show Tryd.prog.wantsStandIn t = false by simpa using List.all_eq_true.1 hall t (by simpa using Array.mem_of_getElem? ht))

/-- THE CARD. -/
theorem proved : Rows.BoxMarkedCardSaid :=
  Claim7.holds_tied_plain_at .later [] _ _ _ _ said (fun _ h => by cases h) (by kernel_rfl) (fun _ h => by cases h) boxMarked_row_tie rfl ⟨rfl, rfl⟩ (by kernel_rfl) rfl plain (by kernel_rfl)
end Go.Proofs.YtdgpchacfdlleaaDoor.lawBoxMarked
