/-
  The reference's number modulo 2^130 - 5.
-/
import Derived.Test.YtmjjnaaiakchhaaPolyT
namespace Go.Proofs.Ytmjjnaaiakchhaa
open Go.RowKit

def foldN (N : Int) : Int := N % p130 + 5 * (N / p130)
theorem foldN_mod (N : Int) : foldN N % pr = N % pr := by
  have h : N = p130 * (N / p130) + N % p130 := (Int.mul_ediv_add_emod N p130).symm
  have e : N - foldN N = pr * (N / p130) := by
    unfold foldN p130 pr at *
    omega
  exact (Int.emod_eq_emod_iff_emod_sub_eq_zero.2 (Int.emod_eq_zero_of_dvd ⟨N / p130, e⟩)).symm
def foldK (N : Int) : Nat → Int
  | 0 => N
  | k + 1 => foldN (foldK N k)
theorem foldK_mod (N : Int) (k : Nat) : foldK N k % pr = N % pr := by
  induction k with
  | zero => rfl
  | succ k ih => rw [foldK, foldN_mod, ih]
theorem foldK_small (N : Int) (h0 : 0 ≤ N) (h : N < big40) : 0 ≤ foldK N 8 ∧ foldK N 8 < p130 := by
  have s1 : ∀ M : Int, 0 ≤ M → M < p130 → foldN M = M := fun M h1 h2 => by
    unfold foldN
    rw [Int.emod_eq_of_lt h1 h2, Int.ediv_eq_zero_of_lt h1 h2]
    omega
  have a1 : 0 ≤ foldN N ∧ foldN N < 12554203470773361527671578846415332832204710888928069025792 := by
    unfold foldN p130 big40 at *
    omega
  have a2 : 0 ≤ foldN (foldN N) ∧ foldN (foldN N) < 1361129467683753853899615447493456723904 := by
    generalize foldN N = M at *
    unfold foldN p130 at *
    omega
  have a3 : 0 ≤ foldN (foldN (foldN N)) ∧ foldN (foldN (foldN N)) < p130 := by
    generalize foldN (foldN N) = M at *
    unfold foldN p130 at *
    omega
  have e : foldK N 8 = foldN (foldN (foldN N)) := by
    show foldN (foldN (foldN (foldN (foldN (foldN (foldN (foldN N))))))) = _
    rw [s1 (foldN (foldN (foldN N))) a3.1 a3.2, s1 _ a3.1 a3.2, s1 _ a3.1 a3.2, s1 _ a3.1 a3.2, s1 _ a3.1 a3.2]
  rw [e]
  exact a3

theorem set_take (zs : List Int) (j : Nat) (d : Int) (h : j < zs.length) : (zs.set j d).take (j + 1) = zs.take j ++ [d] := by
  have h1 := take_snoc (zs.set j d) j (by rw [List.length_set]; exact h)
  rw [h1, List.take_set_of_le (Nat.le_refl _)]
  congr 2
  simp [List.getD_eq_getElem?_getD, h]
/-- Where the subtraction stands. -/
structure SInv (w1 wr : World) (go : Nat) (xs ps zs : List Int) (j : Nat) (c : Int) : Prop where
  blk : Blk wr go (ni zs) 3
  len : zs.length = 40
  isB : IsB zs
  c01 : c = 0 ∨ c = 1
  val : leV (xs.take j) - leV (ps.take j) = leV (zs.take j) - 256 ^ j * c
  b : Below w1.heap.size w1 wr
theorem SInv.step {w1 wr w' : World} {go : Nat} {xs ps zs : List Int} {j : Nat} {c d c' : Int} (h : SInv w1 wr go xs ps zs j c) (hj : j < 40) (hx : xs.length = 40) (hp : ps.length = 40) (hd : 0 ≤ d ∧ d ≤ 255) (hc : c' = 0 ∨ c' = 1)
    (hv : xs.getD j 0 - ps.getD j 0 - c = d - 256 * c') (hb : Blk w' go (ni (zs.set j d)) 3) (hbl : Below w1.heap.size w1 w') : SInv w1 w' go xs ps (zs.set j d) (j + 1) c' := by
  refine ⟨hb, by rw [List.length_set]; exact h.len, Upto.set (m := 255) h.isB j hd, hc, ?_, hbl⟩
  have hv2 := h.val
  rw [leV_snoc xs j (by omega), leV_snoc ps j (by omega), set_take zs j d (by rw [h.len]; omega), leV_append, List.length_take, h.len, Nat.min_eq_left (by omega), Int.pow_succ]
  simp only [leV, Int.mul_zero, Int.add_zero]
  generalize leV (xs.take j) = A at *
  generalize leV (ps.take j) = B at *
  generalize leV (zs.take j) = C at *
  generalize (256 : Int) ^ j = q at *
  have e : q * xs.getD j 0 - q * ps.getD j 0 - q * c = q * d - q * 256 * c' := by
    rw [← Int.mul_sub, ← Int.mul_sub, hv, Int.mul_sub, Int.mul_assoc]
  omega

structure RInv (w wr : World) (v : Value) (xs : List Int) (N : Int) : Prop where
  num : Num wr v xs
  val : leV xs = N
  b : Below w.heap.size w wr

set_option maxRecDepth 100000 in
set_option maxHeartbeats 4000000 in
theorem rest_any (w : World) (u : Value) (xs : List Int) (hu : Num w u xs) : Calls Try.prog 33 #[u] w (NumRes (leV xs % pr) w) := by
  have hr := leV_range hu.isB
  rw [hu.len, big40_eq] at hr
  obtain ⟨i, hi, hz0, hz1, hz2⟩ := info_parts info3
  have HU := Lib.hid hu
  clear hu
  go_enter Try.func33, Try.ntmps33
  go_wp2_with fail
  go_loopw [0, 3] (fun v x wr => ∃ (k : Nat) (ys : List Int), k ≤ 8 ∧ x = .int .i64 k ∧ RInv w wr v ys (foldK (leV xs) k)) (fun _ x _ => 8 - (intOf x).toNat)
  case atStart => exact ⟨0, xs, by omega, rfl, HU.out, rfl, Below.refl _ _⟩
  case round =>
    obtain ⟨k, ys, hk, rfl, inv⟩ := hrel
    have HI := Lib.hid inv
    clear inv
    by_cases hlt : k < 8
    · go_wp2_with (go_at_call 43; refine (fold_any _ _ ys HI.out.num).mono ?_; rintro e w9 ⟨v9, y9, rfl, h1, h2, h3⟩)
      refine ⟨⟨k + 1, y9, by omega, by go_num, h1, ?_, bw_then HI.out.b h3 HI.out.b.size⟩, by simp [intOf]; omega⟩
      rw [h2, HI.out.val]
      rfl
    · obtain rfl : k = 8 := by omega
      have hs := foldK_small (leV xs) hr.1 hr.2
      have hmod := foldK_mod (leV xs) 8
      rw [← HI.out.val] at hs hmod
      have HS := Lib.hid (fun _ : Unit => hs)
      have HM := Lib.hid (fun _ : Unit => hmod)
      clear hs hmod hr
      go_upto_region 7 with (go_at_call 44; refine (prime_any _).mono ?_; rintro e w9 ⟨vp, yp, rfl, hp1, hp2, hp3⟩)
      have hs2 := HI.out.b.size
      have hb9 : Below w.heap.size w w9 := bw_then HI.out.b hp3 hs2
      have HN := Lib.hid (HI.out.num.stay hp3)
      have HP := Lib.hid hp1
      have HPV := Lib.hid (fun _ : Unit => hp2)
      clear hp1 hp2
      obtain ⟨M, hM⟩ : ∃ M, leV ys = M := ⟨_, rfl⟩
      have HMV := Lib.hid (fun _ : Unit => hM)
      clear hM
      go_loopw [0, 5] (fun v x wr => ∃ (k : Nat) (zs : List Int), x = .int .i64 k ∧ Num wr v zs ∧ ((k = 0 ∧ leV zs = M) ∨ (k = 1 ∧ leV zs = M - pr ∧ pr ≤ M)) ∧ Below w9.heap.size w9 wr) (fun _ x _ => 2 - (intOf x).toNat)
      case atStart => exact ⟨0, ys, rfl, HN.out, .inl ⟨rfl, HMV.out ()⟩, Below.refl _ _⟩
      case round =>
        obtain ⟨k, zs, rfl, hnum, hkv, hbl⟩ := hrel
        obtain ⟨wo, rfl⟩ : ∃ wo : World, wo = wr := ⟨_, rfl⟩
        have hk1 : k ≤ 1 := by omega
        have hk2 : (k : Int) < 2 := by omega
        have hMs := HS.out ()
        rw [HMV.out ()] at hMs
        have hMm := HM.out ()
        rw [HMV.out ()] at hMm
        have hpv : pr = 1361129467683753853853498429727072845819 := rfl
        have hp130 : p130 = 1361129467683753853853498429727072845824 := rfl
        have BL := Lib.hid (below_any wo _ _ zs yp hnum (HP.out.stay hbl))
        rw [HPV.out ()] at BL
        by_cases hlt : leV zs < pr
        · have hd : decide (leV zs < pr) = true := decide_eq_true hlt
          have hres : leV zs = leV xs % pr := by
            rw [← hMm]
            have hz := (leV_range hnum.isB).1
            rcases hkv with ⟨_, h⟩ | ⟨_, h, _⟩
            · rw [h] at hlt ⊢
              rw [Int.emod_eq_of_lt (by omega) hlt]
            · rw [h] at hlt hz ⊢
              rw [← Int.emod_eq_of_lt hz hlt]
              exact Int.sub_emod_right M pr
          have HR := Lib.hid (fun _ : Unit => hres)
          have HNZ := Lib.hid hnum
          rw [hd] at BL
          clear hres hd hlt hkv hMs hMm hpv hp130 hnum
          go_wp2_with (go_at_call 45; refine BL.out.mono ?_; rintro e wa ⟨rfl, hba⟩)
          all_goals go_ret
          exact ⟨_, zs, rfl, HNZ.out.stay hba, HR.out (), bw_then hb9 (bw_then hbl hba hbl.size) hb9.size⟩
        · have hd : decide (leV zs < pr) = false := decide_eq_false hlt
          have hk0 : k = 0 ∧ leV zs = M := by
            rcases hkv with h | ⟨_, h, _⟩
            · exact h
            · omega
          obtain ⟨rfl, hzM⟩ := hk0
          have hge : pr ≤ M := by omega
          rw [hd] at BL
          have HZM := Lib.hid (fun _ : Unit => hzM)
          have HGE := Lib.hid (fun _ : Unit => hge)
          have HNZ := Lib.hid hnum
          clear hkv hMs hMm hpv hp130 hnum hd hlt hzM hge
          go_upto_region 11 with (first
            | (go_at_call 45; refine BL.out.mono ?_; rintro e wa ⟨rfl, hba⟩)
            | (refine wpList_make_full wa rfl (.const (.int .i64 40)) (.const (.int .i64 40)) 62 rfl wa.heap.size 3 i _ 1 Try.underlying62 hi hz0 hz1 .i64 .i64 _ _ 40 rfl rfl rfl rfl (by rw [hz2]; decide) (by decide) (Nat.le_refl _) ?_; intro wb hown hgrow))
          have hbab : Below wa.heap.size wa wb := (Below.refl _ _).grown hgrow (Nat.le_refl _) (fun k h => by cases h)
          have hout : Blk wb wa.heap.size (ni (List.replicate 40 0)) 3 := by
            have h := blk_of_own hown
            rw [show (Value.cells (Value.int IntKind.i64 0)) = #[Value.int IntKind.i64 0] from rfl, Nat.mul_one, toList_madeCells_one] at h
            simpa [ni] using h
          obtain ⟨go, hgo⟩ : ∃ go, wa.heap.size = go := ⟨_, rfl⟩
          have hbl2 : Below w9.heap.size w9 wa := bw_then hbl hba hbl.size
          have NZ := HNZ.out.stay hba
          have NP := HP.out.stay hbl2
          obtain ⟨bu, ou, cu, hvu, hbu, hu1, hu2, hu3⟩ := NZ.rd.cells (by rw [ni_len, NZ.len]; decide)
          obtain ⟨bv, ov, cv, hvv, hbv, hv1, hv2, hv3⟩ := NP.rd.cells (by rw [ni_len, NP.len]; decide)
          rw [ni_len, NZ.len] at hvu hu1
          rw [ni_len, NP.len] at hvv hv1
          subst hvu hvv
          rw [hgo] at hout hbu hbv
          simp only [hgo]
          have HNZ2 := Lib.hid NZ
          have HNP2 := Lib.hid NP
          have HU3 := Lib.hid hu3
          have HV3 := Lib.hid hv3
          have HOUT := Lib.hid hout
          clear NZ NP hown hgrow hu3 hv3 hout hba
          go_wp2_with fail
          go_loopw [6, 8] (fun c x wr => ∃ (j : Nat) (cc : Int) (os : List Int), j ≤ 40 ∧ x = .int .i64 j ∧ c = .int .i64 cc ∧ SInv wa wr go zs yp os j cc) (fun _ x _ => 40 - (intOf x).toNat)
          case atStart => exact ⟨0, 0, _, by omega, rfl, rfl, HOUT.out, by simp, fun z hz => by obtain ⟨_, rfl⟩ := List.mem_replicate.1 hz; exact ⟨Int.le_refl _, by decide⟩, .inl rfl, by simp [leV], hbab⟩
          case round =>
            obtain ⟨j, cc, os, hj40, rfl, rfl, inv⟩ := hrel
            by_cases hjl : j < 40
            · obtain ⟨x, hx⟩ : ∃ x, zs.getD j 0 = x := ⟨_, rfl⟩
              obtain ⟨p, hp⟩ : ∃ p, yp.getD j 0 = p := ⟨_, rfl⟩
              have hxr := HNZ2.out.isB.at_ j
              have hpr := HNP2.out.isB.at_ j
              rw [hx] at hxr
              rw [hp] at hpr
              have e1 : wr.cell? ⟨bu, ou + j, none⟩ = some (.int .i64 x) := by rw [← hx]; exact HU3.out wr inv.b j _ (ni_get zs j (by rw [HNZ2.out.len]; omega))
              have e2 : wr.cell? ⟨bv, ov + j, none⟩ = some (.int .i64 p) := by rw [← hp]; exact HV3.out wr inv.b j _ (ni_get yp j (by rw [HNP2.out.len]; omega))
              obtain ⟨o, ho⟩ : ∃ o, os.getD j 0 = o := ⟨_, rfl⟩
              have e3 : wr.cell? ⟨go, j, none⟩ = some (.int .i64 o) := by rw [← ho]; exact inv.blk.at_ _ (ni_get os j (by rw [inv.len]; omega))
              have e4 := inv.blk.free j
              have hc01 := inv.c01
              have hcr : 0 ≤ cc ∧ cc ≤ 1 := by omega
              have HI2 := Lib.hid inv
              have HX := Lib.hid (fun _ : Unit => hx)
              have HPJ := Lib.hid (fun _ : Unit => hp)
              clear inv hx hp ho hc01
              go_upto_region 14 with fail
              go_quiet (fail)
              by_cases hneg : x - p - cc < 0
              · go_wp2_with fail
                go_roundw
                case rel =>
                  refine ⟨j + 1, 1, _, by omega, by go_num, rfl, SInv.step HI2.out hjl HNZ2.out.len HNP2.out.len (d := x - p - cc + 256) (by omega) (.inr rfl) (by rw [HX.out (), HPJ.out ()]; omega) ?_ ?_⟩
                  · have h := Blk.set (w := wr.drewN nq) (show Blk (wr.drewN nq) go _ _ from HI2.out.blk) j (.int .i64 (x - p - cc + 256))
                    rwa [ni_set] at h
                  · exact (bw_dr HI2.out.b nq).setCell (by show wa.heap.size ≤ go; omega) _
                case measure => simp [intOf]; omega
              · go_wp2_with fail
                go_roundw
                case rel =>
                  refine ⟨j + 1, 0, _, by omega, by go_num, rfl, SInv.step HI2.out hjl HNZ2.out.len HNP2.out.len (d := x - p - cc) (by omega) (.inl rfl) (by rw [HX.out (), HPJ.out ()]; omega) ?_ ?_⟩
                  · have h := Blk.set (w := wr.drewN nq) (show Blk (wr.drewN nq) go _ _ from HI2.out.blk) j (.int .i64 (x - p - cc))
                    rwa [ni_set] at h
                  · exact (bw_dr HI2.out.b nq).setCell (by show wa.heap.size ≤ go; omega) _
                case measure => simp [intOf]; omega
            · obtain rfl : j = 40 := by omega
              go_wp2_with fail
              have hv := inv.val
              have ho := leV_range inv.isB
              rw [List.take_of_length_le (by rw [HNZ2.out.len]; exact Nat.le_refl _), List.take_of_length_le (by rw [HNP2.out.len]; exact Nat.le_refl _), List.take_of_length_le (by rw [inv.len]; exact Nat.le_refl _), HZM.out (), HPV.out (), big40_eq] at hv
              rw [inv.len, big40_eq] at ho
              have hge := HGE.out ()
              have hcc : cc = 0 := by
                have := inv.c01
                unfold big40 at *
                omega
              subst hcc
              refine ⟨⟨1, os, rfl, ⟨?_, inv.len, inv.isB⟩, .inr ⟨rfl, by omega, hge⟩, bw_then hbl2 inv.b hbl2.size⟩, by simp [intOf]⟩
              have := Rd.of_blk inv.blk (by rw [ni_len, inv.len]; decide)
              rwa [ni_len, inv.len] at this
end Go.Proofs.Ytmjjnaaiakchhaa
