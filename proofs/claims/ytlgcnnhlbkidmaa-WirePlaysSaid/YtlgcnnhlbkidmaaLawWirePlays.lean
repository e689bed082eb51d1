/-
  The statement WirePlays: any calls are answered as the reference answers them. No condition.
-/
import Derived.Test.YtlgcnnhlbkidmaaActW
import Derived.Deep.CutBlock
import Derived.Deep.DeepCutAuto
namespace Go.Proofs.Ytlgcnnhlbkidmaa.lawWirePlays
open Go.ChangeShapes Go.WideShapes Go.ChangeAt Go.RowKit Go.Conc

theorem info_intW : (Try.prog.info? 3).map (fun i => (i.zero, i.size, i.bytes)) = some (some (.int .i64 0), 1, 8) := by kernel_rfl
theorem act_stay {w w' : World} {cs : List Value} {B : Nat} (h : ActW w cs) (hb : Below B w w') (hB : w.heap.size ≤ B) : ActW w' cs := by
  obtain ⟨kd, way, fr, xs, kk, e, h1, h2, h3, h4, h5⟩ := h
  exact ⟨kd, way, fr, xs, kk, e, h1, h2, h3, h4.stay hb hB, h5⟩
theorem net_mono {w : World} {B B' p : Nat} {own : Nat → Option Spot} {st : List WayS} (h : Net w B' p own st) (hB : B ≤ B') : Net w B p own st := by
  obtain ⟨g, cs, h⟩ := h
  refine ⟨g, cs, h.head, h.hp, h.row, h.hg, fun i l hl => ?_, h.le, fun b s hb => ⟨Nat.le_trans hB (h.dom b s hb).1, (h.dom b s hb).2⟩⟩
  obtain ⟨bv, q1, q2, q3⟩ := h.way i l hl
  obtain ⟨vals, b1, b2⟩ := q3.bag
  exact ⟨bv, q1, q2, ⟨⟨vals, b1.mono hB, b2⟩, q3.gone, q3.le⟩⟩

set_option maxRecDepth 100000 in
set_option maxHeartbeats 4000000 in
theorem walk (w : World) (z : Int) (v : Value) (n : Nat) (f : Nat → List Value) (hz : -9223372036854775808 ≤ z ∧ z ≤ 9223372036854775807) (he : Els w v n 4 f) (ha : ∀ i, i < n → ActW w (f i)) :
    Calls Try.prog 6 #[.int .i64 z, v] w fun e w' => e = .returned (.bool true) ∧ Below w.heap.size w w' := by
  have hmx := he.len
  by_cases hzn : z < 1 ∨ 64 < z
  · have NW := Lib.hid (newwire_none w z hzn)
    have NN := Lib.hid (newnet_none w z hzn)
    clear he ha
    go_enter Try.func6, Try.ntmps6
    go_wp2_with (first
      | (go_at_call 21; refine NW.out.mono ?_; rintro e w' ⟨rfl, rfl⟩)
      | (go_at_call 31; refine NN.out.mono ?_; rintro e w' ⟨rfl, rfl⟩)
      | (go_at_call 16; refine (awake11_any w).mono ?_; rintro e w' ⟨rfl, hb'⟩))
    all_goals go_ret
    exact ⟨rfl, hb'⟩
  obtain ⟨m, rfl⟩ := Int.eq_ofNat_of_zero_le (show 0 ≤ z by omega)
  have hm1 : 1 ≤ m := by omega
  have hm64 : m ≤ 64 := by omega
  have NW := Lib.hid (newwire_any w m (by omega))
  have HE := Lib.hid he
  have HAC := Lib.hid ha
  clear hzn ha
  go_enter Try.func6, Try.ntmps6
  go_upto_region 4 with (first
    | (go_at_call 21; refine NW.out.mono ?_; rintro e w1 ⟨p, own, rfl, hw1, hb1⟩)
    | (go_at_call 31; refine (newnet_any w1 m hm1 hm64).mono ?_; rintro e w2 ⟨q, ownR, rfl, hn2, hb2⟩))
  have hb12 := bw_then hb1 hb2 hb1.size
  have FW := Lib.hid (few11_any w2 v n f (HE.out.stay hb12 (Nat.le_refl _)) (fun i hi => act_stay (HAC.out i hi) hb12 (Nat.le_refl _)))
  have inv0 : PlayAt w.heap.size p q w w2 (drop4 own) ownR (List.replicate m ([], 0)) := by
    refine ⟨by have := (hw1.stay hb2).fresh; simpa using this, net_mono hn2 hb1.size, fun b s hs => ?_, hb12, hb12.size, fun b s hs h4 => absurd h4 (drop4_no hs).1⟩
    have h1 := (hn2.dom b s hs).1
    cases ho : drop4 own b with
    | none => rfl
    | some s' => have := (hw1.dom b s' (drop4_no ho).2).2; omega
  have HI0 := Lib.hid inv0
  have HB12 := Lib.hid hb12
  clear inv0 hw1 hn2 hb1 hb2 hb12
  go_upto_region 6 with (first
    | (go_at_call 32; refine FW.out.mono ?_; rintro e w3 ⟨bf, rfl, hw3⟩; subst hw3; cases bf)
    | (go_at_call 16; refine (awake11_any w2).mono ?_; rintro e w' ⟨rfl, hb'⟩))
  · go_ret
    exact ⟨rfl, bw_then HB12.out hb' HB12.out.size⟩
  obtain ⟨A0, c0, rfl, hc0, hc0m, _, H3⟩ := HE.out
  have H3 := Lib.hid H3
  generalize hB : w.heap.size = B at *
  have HBB := Lib.hid (fun _ : Unit => hB)
  clear hB FW NW he
  go_wp2_with fail
  go_loopw [7] (fun x wr => ∃ (i : Nat) (own ownR : Nat → Option Spot) (st : List WayS), i ≤ n ∧ x = .int .i64 i ∧ PlayAt B p q w wr own ownR st) (fun x _ => n - (intOf x).toNat)
  case atStart => exact ⟨0, drop4 own, ownR, _, Nat.zero_le _, rfl, HI0.out⟩
  case round =>
    obtain ⟨i, own2, ownR2, st, hi, rfl, inv⟩ := hrel
    obtain ⟨wo, rfl⟩ : ∃ wo : World, wo = wr := ⟨_, rfl⟩
    have HI := Lib.hid inv
    clear inv HI0
    by_cases hlt : i < n
    · obtain ⟨bb, oo, rfl, hbw, hcs⟩ := H3.out (by omega)
      obtain ⟨kd, way, fr, xs, kk, hfi, hkd, hway, hxs, hru, hkk⟩ := HAC.out i hlt
      have e := (hcs i hlt).2
      rw [hfi] at e
      obtain ⟨A, cc, rfl, _⟩ := id hru
      have hmx := hru.len
      rw [bs_len] at e hru hmx
      have hbB : bb < B := by have := HBB.out (); omega
      have e0 : wo.cell? ⟨bb, oo + i * 4, none⟩ = some (.int .u8 kd) := (HI.out.b.cell (p := ⟨bb, oo + i * 4, none⟩) hbB).trans (e 0 (by omega))
      have e1 : wo.cell? ⟨bb, oo + i * 4 + 1, none⟩ = some (.int .i64 way) := (HI.out.b.cell (p := ⟨bb, oo + i * 4 + 1, none⟩) hbB).trans (e 1 (by omega))
      have e2 : wo.cell? ⟨bb, oo + i * 4 + 2, none⟩ = some (.slice A xs.length cc) := (HI.out.b.cell (p := ⟨bb, oo + i * 4 + 2, none⟩) hbB).trans (e 2 (by omega))
      have e3 : wo.cell? ⟨bb, oo + i * 4 + 3, none⟩ = some (.int .i64 kk) := (HI.out.b.cell (p := ⟨bb, oo + i * 4 + 3, none⟩) hbB).trans (e 3 (by omega))
      have HRU := Lib.hid hru
      have HXS := Lib.hid hxs
      obtain ⟨m2, hm2⟩ : ∃ m, xs.length = m := ⟨_, rfl⟩
      rw [hm2] at e2 HRU hmx
      have HM := Lib.hid (fun _ : Unit => hm2)
      clear hcs hfi hru e hxs hm2
      go_upto_block 2 with fail
      obtain ⟨w1, hw1⟩ : ∃ w1, (wo.alloc (.cells #[.int .u8 kd, .int .i64 way, .slice A m2 cc, .int .i64 kk] 47)) = w1 := ⟨_, rfl⟩
      change Code.wp _ _ _ _ (wo.alloc (.cells #[.int .u8 kd, .int .i64 way, .slice A m2 cc, .int .i64 kk] 47))
      rw [hw1]
      have hAct : Blk w1 wo.heap.size [.int .u8 kd, .int .i64 way, .slice A m2 cc, .int .i64 kk] 47 := by rw [← hw1]; exact Blk.mk_ _ rfl rfl
      have hI1 : PlayAt B p q w w1 own2 ownR2 st := by rw [← hw1]; exact HI.out.stay (bw_al (Below.refl _ _) (Nat.le_refl _) _)
      obtain ⟨g, hg⟩ : ∃ g, wo.heap.size = g := ⟨_, rfl⟩
      have hgn : own2 g = none ∧ ownR2 g = none := by
        refine ⟨?_, ?_⟩
        · cases ho : own2 g with
          | none => rfl
          | some s => have := (HI.out.wire.dom g s ho).2; omega
        · cases ho : ownR2 g with
          | none => rfl
          | some s => have := (HI.out.net.dom g s ho).2; omega
      rw [hg] at hAct ⊢
      have hgB : B ≤ g := by rw [← hg]; exact HI.out.s
      clear hw1 e0 e1 e2 e3
      go_cut [9, 10, 11, 12] from 41 to 105 (fun b c e f wx => ∃ own' ownR' st' ys er, PlayAt B p q w wx own' ownR' st' ∧ Blk wx g [.int .u8 kd, .int .i64 way, .slice A m2 cc, .int .i64 kk] 47 ∧ e = .int .i64 er ∧ f = .int .i64 er ∧ Rd wx b (bs ys) ∧ Rd wx c (bs ys) ∧ IsB ys ∧ ∀ k, hold b k → Loose B wx own' ownR' st' k)
      case first =>
        have hrB : Rd w1 (.slice A m2 cc) (bs xs) := HRU.out.stay hI1.b (by have := HBB.out (); omega)
        have z1 := hAct.at_ 1 rfl
        have z0 := hAct.at_ 0 rfl
        have z2 := hAct.at_ 2 rfl
        have z3 := hAct.at_ 3 rfl
        have HN := Lib.hid hgn
        have HI1 := Lib.hid hI1
        have HA1 := Lib.hid hAct
        have HRB := Lib.hid hrB
        clear hgn hI1 hAct hrB
        obtain ⟨kr, hkr⟩ : ∃ kr, kd % 6 = kr := ⟨_, rfl⟩
        by_cases k2 : kr = 2
        · subst k2
          have NX := Lib.hid (nextU w1 B p own2 st way HI1.out.wire hway)
          go_upto_region 16 with (go_at_call 23; refine NX.out.mono ?_; rintro e w2 ⟨vb, rfl, n1, n2, n3, n4, n5, n6⟩)
          have hA2 := HA1.out.turns n6 (fun h => by obtain ⟨s, hs⟩ := h; rw [HN.out.1] at hs; cases hs)
          have zz1 := hA2.at_ 1 rfl
          have hN2 := HI1.out.net.turns n6 (fun b s hs h => by obtain ⟨s', hs'⟩ := h; rw [HI1.out.apart b s hs] at hs'; cases hs')
          have NN := Lib.hid (nnextU w2 B q ownR2 st way hN2 hway)
          have M1 := Lib.hid n1; have M2 := Lib.hid n2; have M3 := Lib.hid n3; have M4 := Lib.hid n4; have M5 := Lib.hid n5; have M6 := Lib.hid n6; have HA2 := Lib.hid hA2
          clear n1 n2 n3 n4 n5 n6 hA2 hN2 z0 z1 z2 z3
          go_wp2_with (go_at_call 33; refine NN.out.mono ?_; rintro e w3 ⟨vc, rfl, q1, q2, q3⟩)
          go_meet
          have hst := HI1.out.step M4.out (fun _ _ => rfl) (fun b s hb hs => absurd (HI1.out.wire.dom b s hs).2 (by omega)) M6.out M5.out q2 (fun _ _ => rfl) q3
          have hnr : ∀ k, hold vb k → ¬ Their ownR2 k := fun k hk hr => by
            obtain ⟨s, hs, _⟩ := M3.out k hk
            obtain ⟨s', hs'⟩ := hr
            rw [HI1.out.apart k s' hs'] at hs; cases hs
          refine ⟨own2, ownR2, nextS st way, nextF st way, nextE st way, hst, HA2.out.turns q3 (fun h => by obtain ⟨s, hs⟩ := h; rw [HN.out.2] at hs; cases hs), rfl, rfl, M1.out.turns q3 (fun b o n c' e => hnr b ⟨o, n, c', e⟩), q1, M2.out, fun k hk => ?_⟩
          obtain ⟨s, hs, h4, hgo⟩ := M3.out k hk
          refine ⟨(HI1.out.wire.dom k s hs).1, (hst.wire.dom k s hs).2, ?_, fun s' hs' => ?_, hst.free k s hs h4⟩
          · cases hr : ownR2 k with
            | none => rfl
            | some s' => exact absurd ⟨s', hr⟩ (hnr k hk)
          · rw [hs] at hs'; cases hs'; exact ⟨h4, hgo⟩
        by_cases k3 : kr = 3
        · subst k3
          have NX := Lib.hid (loseU w1 B p own2 st way HI1.out.wire hway)
          go_upto_region 19 with (go_at_call 26; refine NX.out.mono ?_; rintro e w2 ⟨rfl, n4, n5, n6⟩)
          have hA2 := HA1.out.turns n6 (fun h => by obtain ⟨s, hs⟩ := h; rw [HN.out.1] at hs; cases hs)
          have zz1 := hA2.at_ 1 rfl
          have hN2 := HI1.out.net.turns n6 (fun b s hs h => by obtain ⟨s', hs'⟩ := h; rw [HI1.out.apart b s hs] at hs'; cases hs')
          have NN := Lib.hid (nnextU w2 B q ownR2 st way hN2 hway)
          have M4 := Lib.hid n4; have M5 := Lib.hid n5; have M6 := Lib.hid n6; have HA2 := Lib.hid hA2
          clear n4 n5 n6 hA2 hN2 z0 z1 z2 z3
          go_wp2_with (go_at_call 33; refine NN.out.mono ?_; rintro e w3 ⟨vc, rfl, q1, q2, q3⟩)
          go_meet
          have hst := HI1.out.step M4.out (fun _ _ => rfl) (fun b s hb hs => absurd (HI1.out.wire.dom b s hs).2 (by omega)) M6.out M5.out q2 (fun _ _ => rfl) q3
          exact ⟨own2, ownR2, nextS st way, [], nextE st way, hst, HA2.out.turns q3 (fun h => by obtain ⟨s, hs⟩ := h; rw [HN.out.2] at hs; cases hs), rfl, rfl, Rd.nil _, Rd.nil _, (fun z hz => by simp at hz), fun k hk => absurd hk (no_hold k)⟩
        by_cases k45 : kr = 4 ∨ kr = 5
        · have PK := Lib.hid (pick_any w1 B p own2 st way kk HI1.out.wire hway hkk)
          have tail : ∀ (w2 : World) (v : Value), w2.ownsRow w1.heap.size 5 1 v (pickF st way kk).length (bs (pickF st way kk)) → Below w1.heap.size w1 w2 → ∀ vc, Rd w2 vc (bs (pickF st way kk)) → ∃ own' ownR' st' ys er, PlayAt B p q w w2 own' ownR' st' ∧ Blk w2 g [.int .u8 kd, .int .i64 way, .slice A m2 cc, .int .i64 kk] 47 ∧ Value.int .i64 (pickE st way kk) = .int .i64 er ∧ Value.int .i64 (pickE st way kk) = .int .i64 er ∧ Rd w2 v (bs ys) ∧ Rd w2 vc (bs ys) ∧ IsB ys ∧ ∀ k, hold v k → Loose B w2 own' ownR' st' k := by
            intro w2 v ho hb vc hc
            have hst := HI1.out.stay hb
            refine ⟨own2, ownR2, st, pickF st way kk, pickE st way kk, hst, HA1.out.stay hb, rfl, rfl, Rd.of_own ho, hc, pickF_isB HI1.out.wire way kk, fun k hk => ?_⟩
            have hlt := own_lt ho hk
            obtain ⟨cs', t', hb'⟩ := own_blk ho hk
            refine ⟨Nat.le_trans HI1.out.s hlt.1, hlt.2, ?_, fun s hs => absurd (HI1.out.wire.dom k s hs).2 (by omega), free_blk hb'⟩
            cases hr : ownR2 k with
            | none => rfl
            | some s' => exact absurd (HI1.out.net.dom k s' hr).2 (by omega)
          have TL := Lib.hid tail
          clear tail
          have z13 : ∀ w', Below w1.heap.size w1 w' → w'.cell? ⟨g, 1, none⟩ = some (.int .i64 way) := fun w' h => (HA1.out.stay h).at_ 1 rfl
          have z33 : ∀ w', Below w1.heap.size w1 w' → w'.cell? ⟨g, 3, none⟩ = some (.int .i64 kk) := fun w' h => (HA1.out.stay h).at_ 3 rfl
          rcases k45 with rfl | rfl
          all_goals (
            go_upto_region 23 with (go_at_call 24; refine PK.out.mono ?_; rintro e w2 ⟨vb, rfl, n1, n2⟩)
            have y1 := z13 w2 n2
            have y3 := z33 w2 n2
            have NN := Lib.hid (npick_any w2 B q ownR2 st way kk (HI1.out.net.stay n2) hway hkk)
            have M1 := Lib.hid n1; have M2 := Lib.hid n2
            clear n1 n2 z0 z1 z2 z3 z13 z33
            go_wp2_with (go_at_call 34; refine NN.out.mono ?_; rintro e w3 ⟨vc, rfl, q1, q2⟩; subst q2)
            go_meet
            exact TL.out _ _ M1.out M2.out _ q1)
        have hne4 : ¬ kr = 4 := fun h => k45 (.inl h)
        have hne5 : ¬ kr = 5 := fun h => k45 (.inr h)
        clear k45
        have SD := Lib.hid (sendU w1.drew B p own2 st way (.slice A m2 cc) xs (HI1.out.wire.stay (bw_d1 (Below.refl _ _))) hway (HRB.out.stay (bw_d1 (Below.refl _ _)) (Nat.le_refl _)) HXS.out)
        go_upto_region 13 with fail
        refine region_plan ⟨[0, 0, 2, 0, 8, 31, 0, 0, 128, 0, 512, 2047, 4095, 8191], [5, 11], [0, 0, 0, 0, 0, 0, 0, 0, 0, 0, 0, 1, 2, 2]⟩
          [⟨[0, 1, 2, 3, 4, 6, 7, 8, 9, 10], [1, 2, 3, 4, 7, 8, 9, 10], some 5⟩, ⟨[], [7, 8, 9, 10], some 11⟩, ⟨[12, 13], [], none⟩] 141 (by kernel_rfl) (by kernel_rfl) (by kernel_rfl) (by kernel_rfl) rfl ?_
        simp only [SeqGo, opsAt_cons, opsAt_nil, List.getElem?_cons, Option.toList_some, List.singleton_append, ↓reduceIte, Nat.reduceEqDiff, Nat.reduceSub]
        go_wp2_with fail
        refine ⟨by (simp only [Sames, Same]; go_simp), ?_⟩
        go_wp2_with (go_at_call 22; refine SD.out.mono ?_; rintro e w2 ⟨rfl, own3, n1, n2, n3⟩)
        have hA2 := (HA1.out.d1).turns n3 (fun h => by obtain ⟨s, hs⟩ := h; rw [HN.out.1] at hs; cases hs)
        have y1 := hA2.at_ 1 rfl
        have y2 := hA2.at_ 2 rfl
        have hN2 := (HI1.out.net.stay (bw_d1 (Below.refl _ _))).turns n3 (fun b s hs h => by obtain ⟨s', hs'⟩ := h; rw [HI1.out.apart b s hs] at hs'; cases hs')
        have hrB2 : Rd w2 (.slice A m2 cc) (bs xs) := HRU.out.stay (n3.below (bw_d1 HI1.out.b) (show B ≤ w1.drew.heap.size from HI1.out.s) (fun j ⟨s, hs⟩ => (HI1.out.wire.dom j s hs).1)) (by have := HBB.out (); omega)
        have NN := Lib.hid (nsendU w2 B q ownR2 st way (.slice A m2 cc) xs hN2 hway hrB2)
        have M1 := Lib.hid n1; have M2 := Lib.hid n2; have M3 := Lib.hid n3; have HA2 := Lib.hid hA2
        clear n1 n2 n3 hA2 hN2 hrB2
        refine ⟨by (simp only [Sames, Same]; go_simp), ?_⟩
        go_wp2_with (go_at_call 35; refine NN.out.mono ?_; rintro e w3 ⟨rfl, ownR3, q1, q2, q3⟩)
        refine ⟨trivial, ?_⟩
        go_wp2_with fail
        go_meet
        have hst := (HI1.out.stay (bw_d1 (Below.refl _ _))).step M1.out M2.out.1 M2.out.2.1 M3.out M2.out.2.2 q1 q2 q3
        exact ⟨own3, ownR3, sendS st way xs, [], sendE st way xs.length, hst, HA2.out.turns q3 (fun h => by obtain ⟨s, hs⟩ := h; rw [HN.out.2] at hs; cases hs), rfl, rfl, Rd.nil _, Rd.nil _, (fun z hz => by simp at hz), fun k hk => absurd hk (no_hold k)⟩
      case rest =>
        obtain ⟨own3, ownR3, st3, ys, er, hI, hA, rfl, rfl, rb, rc, hy, hlo⟩ := hcut
        have CT := Lib.hid (fun (w' : World) (h : Below wc.heap.size wc w') => countU w' B p own3 st3 way (hI.wire.stay h) hway)
        have WT := Lib.hid (fun (w' : World) (h : Below wc.heap.size wc w') => waitingU w' B p own3 st3 way (hI.wire.stay h) hway)
        have NC := Lib.hid (fun (w' : World) (h : Below wc.heap.size wc w') => ncountsU w' B q ownR3 st3 way (hI.net.stay h) hway)
        have z1 : ∀ w', Below wc.heap.size wc w' → w'.cell? ⟨g, 1, none⟩ = some (.int .i64 way) := fun w' h => (hA.stay h).at_ 1 rfl
        have EQ := Lib.hid (equal_any u9 u10 ys ys wc.drew (rb.stay (bw_d1 (Below.refl _ _)) (Nat.le_refl _)) (rc.stay (bw_d1 (Below.refl _ _)) (Nat.le_refl _)) hy hy)
        rw [show eqB ys ys = true by simp [eqB]] at EQ
        have HI3 := Lib.hid hI; have HRB := Lib.hid rb; have HLO := Lib.hid hlo
        have hbl0 : Below wc.heap.size wc wc.drew := bw_d1 (Below.refl _ _)
        clear hI hA rb rc hy hlo hgn hAct hI1
        generalize cntW st3 way = cn at *
        generalize waitW st3 way = wn at *
        have ke : ∀ w' : World, (Op.equalIn 10000 52 (.agg #[.int .i64 cn, .int .i64 wn]) (.agg #[.int .i64 cn, .int .i64 wn])).run Try.prog w' = .ok true w' := fun w' => by
          obtain ⟨i, hi, _, hz, _⟩ := info_parts info_intW
          have := run_eq_ints (P := Try.prog) (w := w') 9998 52 3 2 .i64 [cn, wn] [cn, wn] rfl rfl Try.underlying52 Try.underlying3 i hi hz
          simpa using this
        go_upto_region 24 with fail
        refine region_plan ⟨[0, 0, 3, 7, 15, 31, 31, 127, 255, 511, 1023, 1023, 3071, 8191, 1023, 1023, 33791, 131071, 262143, 1023, 1023, 1049599, 3932159, 8388607, 16777215], [2, 13, 17, 22], [0, 0, 0, 1, 1, 1, 1, 1, 1, 1, 1, 1, 1, 1, 1, 1, 1, 2, 3, 1, 1, 1, 3, 4, 4]⟩
          [⟨[0, 1], [], some 2⟩, ⟨[3, 4, 5, 6, 7, 8, 9, 10, 11, 12, 14, 15, 16, 19, 20, 21], [3, 7, 11, 12, 15, 16, 20, 21], some 13⟩, ⟨[], [15, 16, 20, 21], some 17⟩, ⟨[18], [18, 20, 21], some 22⟩, ⟨[23, 24], [18, 23], none⟩] 141 (by kernel_rfl) (by kernel_rfl) (by kernel_rfl) (by kernel_rfl) rfl ?_
        simp only [SeqGo, opsAt_cons, opsAt_nil, List.getElem?_cons, Option.toList_some, List.singleton_append, ↓reduceIte, Nat.reduceEqDiff, Nat.reduceSub]
        go_wp2_with fail
        iterate 5 (
          try (first | refine And.intro (a := True) trivial ?_ | refine And.intro (show Sames _ _ _ _ _ from by (simp only [Sames, Same]; go_simp; try simp [undef])) ?_)
          try go_wp2_with (first
            | (go_at_call 19; refine EQ.out.mono ?_; rintro e w9 ⟨rfl, hw9⟩; subst hw9)
            | (go_at_call 25; refine (CT.out _ (by assumption)).mono ?_; rintro e w9 ⟨rfl, hw9⟩; subst hw9)
            | (go_at_call 27; refine (WT.out _ (by assumption)).mono ?_; rintro e w9 ⟨rfl, hw9⟩; subst hw9)
            | (go_at_call 36; refine (NC.out _ (by assumption)).mono ?_; rintro e w9 ⟨rfl, hbl⟩; have hbl9 : Below wc.heap.size wc w9 := bw_next (by assumption) hbl; clear hbl)))
        obtain ⟨A5, c5, rfl, hc5, hm5, h05, h5⟩ := id HRB.out
        have h59 : ∀ j, j < (bs ys).length → ∃ b o v, A5 = some ⟨b, o, none⟩ ∧ w9.cell? ⟨b, o + j, none⟩ = some v := fun j hj => by
          rcases h5 with h5 | ⟨b, o, h6, h7⟩
          · rw [h5] at hj; simp at hj
          · exact ⟨b, o, _, h6, cell_stay hbl9 (h7 j hj)⟩
        obtain ⟨ln, hln⟩ : ∃ ln, (bs ys).length = ln := ⟨_, rfl⟩
        rw [hln] at h59 hc5 HLO ⊢
        have hlm : ln ≤ 9223372036854775807 := by unfold maxLen at hm5; omega
        have hI9 := HI3.out.stay hbl9
        have hL9 : ∀ k, hold (.slice A5 ln c5) k → Loose B w9 own3 ownR3 st3 k := fun k hk => by
          obtain ⟨l1, l2, l3, l4, l5⟩ := HLO.out k hk
          exact ⟨l1, Nat.lt_of_lt_of_le l2 hbl9.size, l3, l4, fun j => (frozen_keep (hbl9.block k l2) j).trans (l5 j)⟩
        have HI9 := Lib.hid hI9; have HL9 := Lib.hid hL9; have H59 := Lib.hid h59
        clear h5 h59 hln hI9 hL9 z1 ke hc5 hm5 h05 EQ CT WT NC hbl0
        go_upto_region 26 with fail
        go_wp2_with fail
        go_loopw [13] (fun x wr => ∃ (j : Nat), j ≤ ln ∧ x = .int .i64 j ∧ Turns (fun k => hold (.slice A5 ln c5) k) w9 wr ∧ (∀ a, wr.frozen? a = w9.frozen? a) ∧ ∀ a v, w9.cell? a = some v → ∃ v', wr.cell? a = some v') (fun x _ => ln - (intOf x).toNat)
        case atStart => exact ⟨0, Nat.zero_le _, rfl, Turns.refl _ _, fun _ => rfl, fun a v h => ⟨v, h⟩⟩
        case round =>
          obtain ⟨j, hj, rfl, ht, hfr, hce⟩ := hrel
          obtain ⟨wq, rfl⟩ : ∃ wq : World, wq = wr := ⟨_, rfl⟩
          have HT := Lib.hid ht; have HFR := Lib.hid hfr; have HCE := Lib.hid hce
          clear ht hfr hce
          by_cases hjl : j < ln
          · obtain ⟨b5, o5, v5, rfl, hc5⟩ := H59.out j hjl
            obtain ⟨v6, hc6⟩ := HCE.out _ _ hc5
            have hf6 : wq.frozen? ⟨b5, o5 + j, none⟩ = false := (HFR.out _).trans ((HL9.out b5 ⟨_, _, _, rfl⟩).2.2.2.2 _)
            clear hc5
            go_wp2_with fail
            refine ⟨⟨j + 1, by omega, rfl, HT.out.trans (Turns.set wq b5 (o5 + j) _ ⟨_, _, _, rfl⟩), fun a => (World.frozen?_setCell _ _ _ _).trans (HFR.out a), fun a v h => ?_⟩, by simp [intOf]; omega⟩
            obtain ⟨v7, h7⟩ := HCE.out a v h
            exact cell?_setCell_some h7
          · obtain rfl : j = ln := by omega
            go_wp2_with fail
            have hI' := HI9.out.wrote HT.out HL9.out (fun k _ j => HFR.out _)
            exact ⟨⟨i + 1, own3, ownR3, st3, by omega, by simp, hI'⟩, by simp [intOf]; omega⟩
    · obtain rfl : i = n := by omega
      go_wp2_with (go_at_call 16; refine (awake11_any _).mono ?_; rintro e w' ⟨rfl, hb'⟩)
      all_goals go_ret
      exact ⟨rfl, bw_then (by rw [HBB.out ()]; exact HI.out.b) hb' (by rw [HBB.out ()]; exact HI.out.s)⟩

set_option maxRecDepth 100000 in
theorem contract (H : Type) (enc : TypeId × Value → H) (W : World) (base : Nat) (args : Array Value) (ds gs : List (DataW H)) (before : List MemPlace)
    (hval : ∀ (j : Nat) t v, Try.f6.params[j]? = some t → args[j]? = some v → Value.okWide Try.prog W .any base t v)
    (hW : DataW.Whole enc Try.prog Try.f6.params.toList Rows.wirePlaysSpec.vars false W args.toList ds gs before) :
    Calls Try.prog 6 args W fun e W' => ∃ v, e = .returned v ∧ Rows.wirePlaysSpec.post enc Try.prog Try.f6 false true false false W args v W' := by
  have hW' := hW
  obtain ⟨p, q, hA0, hV, rfl, hfz, hnd⟩ := hW
  have hA : DataW.TrodAll enc Try.prog W 0 (fun _ => true) true Try.f6.params.toList args.toList ds p := hA0
  rw [Try.params6] at hA hval
  obtain ⟨v0, vs0, d0, ds0, p0, q0, hargs0, rfl, rfl, h0, r0⟩ := trodAll_cons hA
  obtain ⟨v1, vs1, d1, ds1, p1, q1, hargs1, e1, rfl, h1, r1⟩ := trodAll_cons r0
  subst e1
  obtain ⟨e9, e8, e7⟩ := trodAll_nil r1
  subst e9 e8 e7
  obtain rfl : args = #[v0, v1] := by cases args; simp_all
  obtain ⟨rfl, rfl⟩ := trodVars_none hV
  have hv0 := hval 0 _ v0 rfl rfl
  have hv1 := hval 1 _ v1 rfl rfl
  clear hA0
  obtain ⟨fuel0, hf0⟩ := h0
  obtain ⟨fuel1, hf1⟩ := h1
  rw [one_of_ok Try.underlying3 rfl hv0] at hf0
  obtain ⟨z0, hcs0, hlo0, hhi0⟩ := int_of_trod Try.underlying3 hf0
  obtain rfl : v0 = .int .i64 z0 := by simpa using hcs0
  rw [one_of_ok Try.underlying42 rfl hv1] at hf1
  obtain ⟨u1, n1, f1, hcs1, he1, hf21⟩ := actsw_of_trod Try.underlying42 hf1
  obtain rfl : v1 = u1 := by simpa using hcs1
  refine (walk W z0 v1 n1 f1 ⟨hlo0, hhi0⟩ he1 hf21).mono fun e W' ⟨he, hb⟩ => ⟨_, he, ?_⟩
  exact law_post Try.laidOut (by kernel_rfl) (by kernel_rfl) Try.underlying4 rfl rfl rfl rfl hW' hb

set_option maxRecDepth 100000 in
theorem lifted (os : Os) (started : os.Started) (H : Type) (enc : TypeId × Value → H) (F : Stop.Interp) :
    ReturnsInHanded {} Try.checked os 6 .any ((OpenSpec.ofChange Rows.wirePlaysSpec).preRow enc Try.prog Try.f6 Rows.wirePlaysRow.domain false Rows.wirePlaysRow.laid) (((OpenSpec.ofChange Rows.wirePlaysSpec).at F).post enc Try.prog Try.f6 false true false false) := by
  obtain ⟨places, hx⟩ : ∃ places, DataW.whole enc Try.prog ((World.holding Try.prog os ⟨#[], #[], []⟩).forCall (fun _ _ => 0) ⟨#[], #[.int .i64 0, .slice none 0 0], []⟩).memory Try.f6.params.toList Rows.wirePlaysSpec.vars false #[.int .i64 0, .slice none 0 0].toList 8 = some ([.lit (.int .i64 0), .nil], [], places) := ⟨[], by kernel_rfl⟩
  refine returnsInHanded_of_row (C := Try.checked) (s := OpenSpec.ofChange Rows.wirePlaysSpec) Try.own started (by kernel_rfl) Try.func6
    (witness_row_at (enc := enc) (C := Try.checked) false (World.holding Try.prog os ⟨#[], #[], []⟩) #[.int .i64 0, .slice none 0 0] rfl (by kernel_rfl) (by kernel_rfl) (by kernel_rfl)
      (OpenSpec.preRow_of_cond 8 hx (by kernel_rfl) (fun k hk => by cases hk) (by kernel_rfl) (laid_none _ _))) ?_
  intro W base args ds gs before hval hW _ _ _ _ _ _
  exact contract H enc W base args ds gs before hval hW

theorem proved : Rows.WirePlaysSaid :=
  OpenClaim.holds_of_cond 6 Try.f6 rfl rfl rfl rfl rfl rfl rfl ⟨rfl, rfl, rfl, rfl, rfl⟩ rfl rfl rfl rfl rfl (by kernel_rfl) Try.func6 (by kernel_rfl)
    (of_decide_eq_true (by kernel_rfl)) (by unfold Func.isWrapper; first | (rw [if_pos (by decide +kernel)]; kernel_rfl) | (rw [if_neg (by decide +kernel)]; exact ⟨rfl, rfl⟩))
    (fun os started H enc _ F => by rw [OpenClaim.pre_eq_preRow]; exact lifted os started H enc F)
end Go.Proofs.Ytlgcnnhlbkidmaa.lawWirePlays
